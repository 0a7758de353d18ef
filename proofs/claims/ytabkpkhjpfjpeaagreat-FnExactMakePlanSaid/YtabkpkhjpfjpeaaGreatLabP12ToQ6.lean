/- Part of the proof of FnExactMakePlan: that for every input the law answers true and leaves what it reads as it was. Conditions: none beyond the given statement. -/
import Derived.Test.YtabkpkhjpfjpeaaGreatLabC48ToQ4
import Derived.Test.YtabkpkhjpfjpeaaGreatLabC1ToC47
set_option linter.all false
/- Plans: a slice of a tensor at 0 (spec). -/
namespace Go.Abs
set_option linter.all false
set_option maxRecDepth 10000

/-- spec.l05Copy -/
theorem n_sl05Copy {H : AH} {a b c : Sl} {t : Tn} (h : TS H a b c t) (hs : TnSmall t) :
    ∃ a' b' c' H', R (.fn F.sl05Copy) [tpv a b c] H = some ⟨1, [tpv a' b' c'], H'⟩ ∧ NewT H H' a' b' c' t := by
  obtain ⟨a', H1, e1, l1, o1⟩ := c_sl05Ints h.L (by have := hs.1; omega)
  obtain ⟨b', H2, e2, l2, o2⟩ := c_sl05Ints (h.D.le l1) (by have := hs.2.1; omega)
  obtain ⟨c', H3, e3, l3, o3⟩ := c_sl05Ints (h.X.le (l1.trans l2)) (by have := hs.2.2; omega)
  have F3 := (((Fr.start H).new l1 o1).new l2 o2).new l3 o3
  refine ⟨a', b', c', H3, ?_, ⟨F3.le, F3.rows.perm (List.reverse_perm [(c', t.X), (b', t.D), (a', t.L)])⟩⟩
  rw [R_eq, e_sl05Copy, e1]
  simp only [Option.bind_some, one_sl]
  rw [e2]
  simp only [Option.bind_some, one_sl]
  rw [e3]
  simp only [Option.bind_some, one_sl]
/-- spec.l05Get -/
theorem c_sl05Get {r : Rg} {H : AH} {a b c : Sl} {X : List Int} {n w : Nat} (hX : IS H c X) (hw : widthR r = (w : Int)) (hw1 : 1 ≤ w) (hw6 : w ≤ 6) (hn : n * w + w ≤ X.length) (hb : n * w + w ≤ 1048576) (hn2 : n ≤ 1048576) :
    ∃ s' H', R (.fn F.sl05Get) [r.pv, tpv a b c, isc (n : Int)] H = some ⟨1, [ssc s'], H'⟩ ∧ Go.Abs.Le H H' ∧ Own H.length H' s' ((X.drop (n * w)).take w) := by
  have hcn : X.length ≤ c.c := by have := hX.n; have := hX.c; omega
  have e1 : IntKind.wrap .i64 ((n : Int) * (w : Int)) = ((n * w : Nat) : Int) := by
    rw [← Int.natCast_mul, wrap_id] <;> omega
  have e2 : IntKind.wrap .i64 (((n * w : Nat) : Int) + (w : Int)) = ((n * w + w : Nat) : Int) := by
    rw [wrap_id] <;> omega
  have l1 := Go.Abs.Le.app H [⟨[], .rw, 1⟩]
  have hpart := (hX.le l1).part (o := n * w) (m := w) hn
  have hml : ((X.drop (n * w)).take w).length = w := by simp; omega
  have hne : (X.drop (n * w)).take w ≠ [] := fun e => by rw [e] at hml; simp at hml; omega
  have hap := app_nil (H := H ++ [⟨[], .rw, 1⟩]) (b := H.length) (l := (X.drop (n * w)).take w) (by omega)
  rw [hml, if_neg hne] at hap
  refine ⟨⟨(H ++ [⟨[], .rw, 1⟩] : AH).length, 0, w, w, false⟩, (H ++ [⟨[], .rw, 1⟩]) ++ [⟨ics ((X.drop (n * w)).take w), .rw, 1⟩], ?_, l1.trans (Go.Abs.Le.app _ _), ?_⟩
  rotate_left
  · have := Own.new (n0 := H.length) (H := H ++ [⟨[], .rw, 1⟩]) (l := (X.drop (n * w)).take w) (x := false) (by simp) (fun e => absurd e hne)
    rw [hml] at this
    exact this
  · rw [R_eq, e_sl05Get, c_sl02Width, hw]
    simp only [Option.bind_some, one_int]
    have hnb : newB H 1 [] = some (H.length, H ++ [⟨[], .rw, 1⟩]) := rfl
    rw [hnb]
    simp only [Option.bind_some]
    rw [e1, e2, slB_mid (by omega) (by omega)]
    simp only [Option.bind_some, show n * w + w - n * w = w by omega]
    rw [hpart.rng]
    simp only [Option.bind_some]
    rw [hap]
    rfl
theorem erase_take {l : List Int} {i j : Nat} (h : i < l.length) : (l.take (i + 1)).eraseIdx j = if i = j then (l.take i).eraseIdx j else (l.take i).eraseIdx j ++ [l[i]] := by
  have hl : (l.take i).length = i := by simp; omega
  rw [take_snoc h]
  by_cases h1 : j < i
  · rw [if_neg (by omega), List.eraseIdx_append_of_lt_length (by omega)]
  · by_cases h2 : i = j
    · subst h2
      rw [if_pos rfl, List.eraseIdx_append_of_length_le (by omega), hl, Nat.sub_self, List.eraseIdx_of_length_le (l := l.take i) (by omega)]
      simp only [List.eraseIdx_cons_zero, List.append_nil]
    · rw [if_neg h2, List.eraseIdx_of_length_le (l := l.take i ++ [l[i]]) (by simp; omega), List.eraseIdx_of_length_le (by omega)]
/-- spec.l09Slice: the axes -/
theorem c_sl09Slice_0 {H0 : AH} {a b c z : Sl} {L D : List Int} {j : Nat} (hL : IS H0 a L) (hD : IS H0 b D) (hl : L.length = D.length) (hl12 : L.length ≤ 12) :
    ∀ (k i : Nat) (H : AH) (sL sD : Sl), i + k = L.length → Fr H0 H [(sL, (L.take i).eraseIdx j), (sD, (D.take i).eraseIdx j)] →
      ∃ sL' sD' H', R (.loop F.sl09Slice 0) [isc (j : Int), ssc a, isc (L.length : Int), isc (i : Int), tpv a b c, tpv sL sD z] H = some ⟨2, [tpv sL' sD' z], H'⟩ ∧ Fr H0 H' [(sL', L.eraseIdx j), (sD', D.eraseIdx j)]
  | 0, i, H, sL, sD, hi, hF => by
    obtain rfl : i = L.length := by omega
    refine ⟨sL, sD, H, by rw [R_eq, e_sl09Slice_0, lt_self]; rfl, ?_⟩
    rw [List.take_length, show D.take L.length = D by rw [hl, List.take_length]] at hF
    exact hF
  | k + 1, i, H, sL, sD, hi, hF => by
    have hlt : i < L.length := by omega
    have hlD : i < D.length := by omega
    have hlen1 : ((L.take i).eraseIdx j).length ≤ 12 := Nat.le_trans (List.eraseIdx_sublist _ _).length_le (by simp; omega)
    have hlen2 : ((D.take i).eraseIdx j).length ≤ 12 := Nat.le_trans (List.eraseIdx_sublist _ _).length_le (by simp; omega)
    by_cases hij : i = j
    · have F2 : Fr H0 H [(sL, (L.take (i + 1)).eraseIdx j), (sD, (D.take (i + 1)).eraseIdx j)] := by
        rw [erase_take hlt, erase_take hlD, if_pos hij, if_pos hij]; exact hF
      obtain ⟨sL', sD', H', e, F3⟩ := c_sl09Slice_0 (c := c) (z := z) hL hD hl hl12 k (i + 1) H sL sD (by omega) F2
      refine ⟨sL', sD', H', ?_, F3⟩
      have hb : ((i : Int) != (j : Int)) = false := by rw [hij]; simp
      rw [R_eq, e_sl09Slice_0, lt_true hlt, w1 hlt (by omega), cond_true, (hL.le hF.le).ldk hlt, hb, cond_false]
      exact e
    · obtain ⟨sL1, H1, e1, F1⟩ := Fr.push [] (ys := [(sD, (D.take i).eraseIdx j)]) (s := sL) (l := (L.take i).eraseIdx j) hF (by omega) L[i]
      obtain ⟨sD1, H2, e2, F2⟩ := Fr.push [(sL1, (L.take i).eraseIdx j ++ [L[i]])] (ys := []) (s := sD) (l := (D.take i).eraseIdx j) F1 (by omega) D[i]
      have F2' : Fr H0 H2 [(sL1, (L.take (i + 1)).eraseIdx j), (sD1, (D.take (i + 1)).eraseIdx j)] := by
        rw [erase_take hlt, erase_take hlD, if_neg hij, if_neg hij]; exact F2
      obtain ⟨sL', sD', H', e, F3⟩ := c_sl09Slice_0 (c := c) (z := z) hL hD hl hl12 k (i + 1) H2 sL1 sD1 (by omega) F2'
      refine ⟨sL', sD', H', ?_, F3⟩
      have hb : ((i : Int) != (j : Int)) = true := bne_iff_ne.2 (by omega)
      have hnb : newAt (H1 ++ [resB]) (H1.length + 0) 1 [.int .i64 D[i]] = newB H1 1 [.int .i64 D[i]] := by
        rw [Nat.add_zero, newAt_ok (by simp) (by omega)]
        simp [newB]
      rw [R_eq, e_sl09Slice_0, lt_true hlt, w1 hlt (by omega), cond_true, (hL.le hF.le).ldk hlt, hb, cond_true, e1, reserve1]
      have F1' : Fr H0 H1 [(sL1, (L.take i).eraseIdx j ++ [L[i]]), (sD, (D.take i).eraseIdx j)] := F1
      rw [(hD.le (F1'.le.trans (Go.Abs.Le.app H1 [resB]))).ldk hlD, hnb, e2]
      exact e
def zeroAt (D : List Int) (j : Nat) (n : Nat) : Bool := (idxF D (n : Int)).getD j 0 == 0
/-- spec.l09Slice: the elements -/
theorem c_sl09Slice_1 {r : Rg} {H0 : AH} {a b c sL sD : Sl} {t : Tn} {w j : Nat} {L' D' : List Int} (ht : TS H0 a b c t) (hw : widthR r = (w : Int)) (hw1 : 1 ≤ w) (hw6 : w ≤ 6) (hd : DimsOk t.D) (hj : j < t.D.length) {N : Nat} (hN : prd t.D = (N : Int)) (hX : t.X.length = N * w)
    (hin : t.X.all (fun x => inB x 0 (topR r)) = true) :
    ∀ (k n : Nat) (H : AH) (sX : Sl) (X : List Int), n + k = N → Fr H0 H [(sX, X), (sL, L'), (sD, D')] → X.length = cnt (zeroAt t.D j) n * w → X.all (fun x => inB x 0 (topR r)) = true →
      ∃ sX' X' H', R (.loop F.sl09Slice 1) [isc 0, isc (j : Int), isc (n : Int), r.pv, tpv a b c, tpv sL sD sX] H = some ⟨4, [tpv sL sD sX'], H'⟩ ∧ Fr H0 H' [(sX', X'), (sL, L'), (sD, D')] ∧ X'.length = cnt (zeroAt t.D j) N * w ∧ X'.all (fun x => inB x 0 (topR r)) = true := by
  have hdl := hd.1
  have hN4 : N ≤ 4096 := by have := hd.2.2; omega
  have hprod : ∀ {H : AH}, IS H b t.D → R (.fn F.sl05Product) [ssc b, isc 4096] H = some ⟨1, [isc (N : Int)], H⟩ := fun h => by
    rw [c_sl05Product h (by omega) fun d hx => by have := hd.2.1 d hx; omega, prodC_eq (by omega) hd.ge (by have := hd.2.2; omega), Int.one_mul, hN]
  intro k
  induction k with
  | zero =>
    intro n H sX X hn hF hXl hXa
    obtain rfl : n = N := by omega
    refine ⟨sX, X, H, ?_, hF, hXl, hXa⟩
    rw [R_eq, e_sl09Slice_1, hprod (ht.D.le hF.le)]
    simp only [Option.bind_some, one_int, lt_self, cond_false]
  | succ k ih =>
    intro n H sX X hn hF hXl hXa
    have hlt : n < N := by omega
    have e2 := c_sl05Index (ht.D.le hF.le) (by omega) hd.ge (n := (n : Int)) (by omega) (by omega)
    have l2 := Go.Abs.Le.app H [⟨ics (idxF t.D (n : Int)), .rw, 1⟩]
    have hil := idxF_len t.D (n : Int)
    have hidx : IS (H ++ [⟨ics (idxF t.D (n : Int)), .rw, 1⟩]) (rowAt H.length (idxF t.D (n : Int))) (idxF t.D (n : Int)) := IS.of_blk app_get (Nat.le_refl _)
    have F2 := hF.ext l2
    have hstep : R (.loop F.sl09Slice 1) [isc 0, isc (j : Int), isc (n : Int), r.pv, tpv a b c, tpv sL sD sX] H = cond (zeroAt t.D j n)
        ((R (.fn F.sl05Get) [r.pv, tpv a b c, isc (n : Int)] (H ++ [⟨ics (idxF t.D (n : Int)), .rw, 1⟩])).bind fun r33 => (oneP r33.vs).bind fun p34 => p34.sc?.bind fun c35 => (slAt [c35] 0).bind fun s36 => (rng r33.H s36.b s36.o (s36.n * 1)).bind fun l37 => (appB r33.H 1 8 sX l37 s36.n).bind fun m38 =>
          R (.loop F.sl09Slice 1) [isc 0, isc (j : Int), isc ((n + 1 : Nat) : Int), r.pv, tpv a b c, tpv sL sD m38.1] m38.2)
        (R (.loop F.sl09Slice 1) [isc 0, isc (j : Int), isc ((n + 1 : Nat) : Int), r.pv, tpv a b c, tpv sL sD sX] (H ++ [⟨ics (idxF t.D (n : Int)), .rw, 1⟩])) := by
      have hz : zeroAt t.D j n = ((idxF t.D (n : Int))[j]'(by omega) == 0) := by
        unfold zeroAt
        simp [List.getD_eq_getElem?_getD, show j < (idxF t.D (n : Int)).length by omega]
      rw [R_eq, e_sl09Slice_1, hprod (ht.D.le hF.le)]
      simp only [Option.bind_some, one_int]
      rw [lt_true hlt, cond_true, e2]
      simp only [Option.bind_some, one_sl]
      rw [hidx.ldk (show j < (idxF t.D (n : Int)).length by omega), w1 hlt (by omega), hz]
    rw [hstep]
    cases hz : zeroAt t.D j n with
    | false =>
      rw [cond_false]
      exact ih (n + 1) _ sX X (by omega) F2 (by simp only [cnt, hz]; simpa using hXl) hXa
    | true =>
      rw [cond_true]
      have hnw : n * w + w ≤ N * w := by
        have : (n + 1) * w ≤ N * w := Nat.mul_le_mul_right _ hlt
        rw [Nat.add_mul, Nat.one_mul] at this
        exact this
      have hNw : N * w ≤ 4096 * 6 := Nat.mul_le_mul hN4 hw6
      obtain ⟨s3, H3, e3, l3, o3⟩ := c_sl05Get (r := r) (a := a) (b := b) (ht.X.le F2.le) hw hw1 hw6 (n := n) (by omega) (by omega) (by omega)
      have F3 := F2.ext l3
      have hcl : cnt (zeroAt t.D j) n * w ≤ 4096 * 6 := Nat.mul_le_mul (by have := cnt_le (zeroAt t.D j) n; omega) hw6
      have hml : ((t.X.drop (n * w)).take w).length = w := by simp; omega
      obtain ⟨sX', H4, e4, F4, l4⟩ := Fr.app [] (ys := [(sL, L'), (sD, D')]) (s := sX) (l := X) (m := (t.X.drop (n * w)).take w) F3 (by omega)
      rw [hml] at e4
      have hs3n : s3.n = w := by rw [o3.n, hml]
      obtain ⟨sX2, X2, H5, e5, F5, x1, x2⟩ := ih (n + 1) H4 sX' (X ++ (t.X.drop (n * w)).take w) (by omega) F4 (by
        rw [List.length_append, hml, hXl]
        simp only [cnt, hz, if_true]
        rw [Nat.add_mul, Nat.one_mul]) (by
        rw [List.all_append, hXa, Bool.true_and]
        exact List.all_eq_true.2 fun x hx => List.all_eq_true.1 hin x (List.mem_of_mem_drop (List.mem_of_mem_take hx)))
      refine ⟨sX2, X2, H5, ?_, F5, x1, x2⟩
      rw [e3]
      simp only [Option.bind_some, one_sl]
      rw [o3.is.rng]
      simp only [Option.bind_some]
      rw [hs3n, e4]
      exact e5
/-- spec.l09Slice, of a valid tensor, at the value 0 of a label it has -/
theorem c_sl09Slice {r : Rg} {H : AH} {a b c : Sl} {t : Tn} {x : Int} {j : Nat} (ht : TS H a b c t) (hok : tensorB r t = true) (hx : findF t.L x 0 = (j : Int)) :
    ∃ a' b' c' X' H', R (.fn F.sl09Slice) [r.pv, tpv a b c, isc x, isc 0] H = some ⟨1, [tpv a' b' c'], H'⟩ ∧ NewT H H' a' b' c' ⟨t.L.eraseIdx j, t.D.eraseIdx j, X'⟩ ∧ TOk r ⟨t.L.eraseIdx j, t.D.eraseIdx j, X'⟩ := by
  have hT := tensor_ok hok
  obtain ⟨f1, f2, f3⟩ := tensor_dims hok
  obtain ⟨_, hjl, hjx⟩ := findF_at hx
  simp only [Nat.sub_zero] at hjl hjx
  have hjD : j < t.D.length := by omega
  have hd' := dims_erase hT.d hjD
  obtain ⟨wl, wh⟩ := width_range hT.rg
  obtain ⟨w, hw⟩ : ∃ w : Nat, widthR r = (w : Int) := ⟨(widthR r).toNat, by omega⟩
  obtain ⟨N, hN, hN1, hN2, hN3⟩ := hT.d.nat
  have hlen := hT.len
  rw [hw, hN] at hlen
  have hXn : t.X.length = N * w := by
    have : ((t.X.length : Nat) : Int) = ((N * w : Nat) : Int) := by rw [hlen, Int.natCast_mul]
    omega
  have e1 := c_sl05Find ht.L (by omega) x
  rw [hx] at e1
  have F0 : Fr H H [(⟨0, 0, 0, 0, true⟩, (t.L.take 0).eraseIdx j), (⟨0, 0, 0, 0, true⟩, (t.D.take 0).eraseIdx j)] := ((Fr.start H).empty 0).empty 0
  obtain ⟨sL, sD, H1, e2, F1⟩ := c_sl09Slice_0 (c := c) (z := ⟨0, 0, 0, 0, true⟩) ht.L ht.D f1 f2 t.L.length 0 H _ _ (by omega) F0
  obtain ⟨sX, X', H2, e3, F2, x1, x2⟩ := c_sl09Slice_1 ht hw (by omega) (by omega) hT.d hjD hN hXn hT.all N 0 H1 ⟨0, 0, 0, 0, true⟩ [] (by omega) (F1.empty 0) (by simp [cnt]) rfl
  have hcnt := cnt_idxF hT.d.ge hjD
  rw [hN3] at hcnt
  refine ⟨sL, sD, sX, X', H2, ?_, ⟨F2.le, F2.rows.perm ?_⟩, ⟨hT.rg, axesB_erase hjl hT.ax, hd', ?_, x2⟩⟩
  · have e2 : R (.loop F.sl09Slice 0) [isc (j : Int), ssc a, isc (t.L.length : Int), isc 0, tpv a b c, tpv ⟨0, 0, 0, 0, true⟩ ⟨0, 0, 0, 0, true⟩ ⟨0, 0, 0, 0, true⟩] H = _ := e2
    have e3 : R (.loop F.sl09Slice 1) [isc 0, isc (j : Int), isc 0, r.pv, tpv a b c, tpv sL sD ⟨0, 0, 0, 0, true⟩] H1 = _ := e3
    rw [R_eq, e_sl09Slice, e1]
    simp only [Option.bind_some, one_int]
    rw [ht.L.n, e2]
    simp only [Option.bind_some, Nat.beq, cond_true]
    rw [agg3z, e3]
    simp only [Option.bind_some, Nat.beq, cond_true]
    rw [agg3z]
  · show [(sL, t.L.eraseIdx j), (sD, t.D.eraseIdx j), (sX, X')].Perm [(sX, X'), (sL, t.L.eraseIdx j), (sD, t.D.eraseIdx j)]
    exact (List.perm_append_comm (l₁ := [(sL, t.L.eraseIdx j), (sD, t.D.eraseIdx j)]) (l₂ := [(sX, X')]))
  · show (X'.length : Int) = prd (t.D.eraseIdx j) * widthR r
    rw [x1, Int.natCast_mul, hw, ← hcnt]
    rfl
end Go.Abs
/- Plans: a network sliced at labels (spec). -/
namespace Go.Abs
set_option linter.all false
set_option maxRecDepth 10000

def slP (l : List Int) (p : List Int × List Int) : List Int × List Int := l.foldl (fun p x => slSh x p.1 p.2) p
theorem slA_map : ∀ (l : List Int) (S : List (List Int × List Int)), slA l S = S.map (slP l)
  | [], S => by
    show S = S.map (slP [])
    exact (List.map_id S).symm
  | x :: l, S => by
    show slA l (slS x S) = S.map (slP (x :: l))
    rw [slA_map l, slS, List.map_map]
    rfl
theorem NewT.ext {H H1 H2 : AH} {a b c : Sl} {t : Tn} (h : NewT H H1 a b c t) (k : Go.Abs.Le H1 H2) : NewT H H2 a b c t := ⟨h.le.trans k, h.rows.le k⟩
/-- spec.l09Fix: the labels -/
theorem c_sl09Fix_0 {r : Rg} {H0 H1 : AH} {v zs : Sl} {l : List Int} {p0 : List Int × List Int} (hv : IS H1 v l) (hz : IS H1 zs (List.replicate l.length 0)) (hl : l.length ≤ 4) :
    ∀ (k i : Nat) (H : AH) (a b c : Sl) (t : Tn), i + k = l.length → Go.Abs.Le H1 H → NewT H0 H a b c t → tensorB r t = true → (t.L, t.D) = slP (l.take i) p0 →
      ∃ a' b' c' t' H', R (.loop F.sl09Fix 0) [ssc zs, ssc v, isc (l.length : Int), isc (i : Int), r.pv, tpv a b c] H = some ⟨2, [tpv a' b' c'], H'⟩ ∧ Go.Abs.Le H H' ∧ NewT H0 H' a' b' c' t' ∧ tensorB r t' = true ∧ (t'.L, t'.D) = slP l p0
  | 0, i, H, a, b, c, t, hi, hle, hN, hok, hs => by
    obtain rfl : i = l.length := by omega
    rw [List.take_length] at hs
    exact ⟨a, b, c, t, H, by rw [R_eq, e_sl09Fix_0, lt_self]; rfl, Go.Abs.Le.refl _, hN, hok, hs⟩
  | k + 1, i, H, a, b, c, t, hi, hle, hN, hok, hs => by
    have hlt : i < l.length := by omega
    have hts := hN.ts
    have hsm := ok_small hok
    have e1 := c_sl05Find hts.L (by have := hsm.1; omega) l[i]
    have hz0 : (List.replicate l.length (0 : Int))[i]'(by simpa using hlt) = 0 := by simp
    have hstep : slP (l.take (i + 1)) p0 = slSh l[i] (slP (l.take i) p0).1 (slP (l.take i) p0).2 := by
      rw [take_snoc' hlt]
      unfold slP
      rw [List.foldl_append]; rfl
    rw [← hs] at hstep
    by_cases hf : 0 ≤ findF t.L l[i] 0
    · obtain ⟨j, hj⟩ : ∃ j : Nat, findF t.L l[i] 0 = (j : Int) := ⟨(findF t.L l[i] 0).toNat, by omega⟩
      obtain ⟨a1, b1, c1, X', H2, e2, n2, ok2⟩ := c_sl09Slice hts hok hj
      have hs2 : ((t.L.eraseIdx j, t.D.eraseIdx j) : List Int × List Int) = slP (l.take (i + 1)) p0 := by
        rw [hstep]
        unfold slSh
        rw [if_pos hf, hj, Int.toNat_natCast]
      obtain ⟨a2, b2, c2, t2, H3, e3, l3, n3, ok3, s3⟩ := c_sl09Fix_0 (r := r) (H0 := H0) hv hz hl k (i + 1) H2 a1 b1 c1 ⟨t.L.eraseIdx j, t.D.eraseIdx j, X'⟩ (by omega) (hle.trans n2.le) ⟨hN.le.trans n2.le, n2.rows.low hN.le.len⟩ (tensor_mk ok2) hs2
      refine ⟨a2, b2, c2, t2, H3, ?_, n2.le.trans l3, n3, ok3, s3⟩
      rw [R_eq, e_sl09Fix_0, lt_true hlt, w1 hlt (by omega), cond_true, (hv.le hle).ldk hlt, e1]
      simp only [Option.bind_some, one_int, decide_eq_true (show findF t.L l[i] 0 ≥ 0 from hf), cond_true]
      rw [(hz.le hle).ldk (by simpa using hlt), hz0, e2]
      simp only [Option.bind_some, o_sss]
      exact e3
    · have hs2 : (t.L, t.D) = slP (l.take (i + 1)) p0 := by
        rw [hstep]
        unfold slSh
        rw [if_neg hf]
      obtain ⟨a2, b2, c2, t2, H3, e3, l3, n3, ok3, s3⟩ := c_sl09Fix_0 (r := r) (H0 := H0) hv hz hl k (i + 1) H a b c t (by omega) hle hN hok hs2
      refine ⟨a2, b2, c2, t2, H3, ?_, l3, n3, ok3, s3⟩
      rw [R_eq, e_sl09Fix_0, lt_true hlt, w1 hlt (by omega), cond_true, (hv.le hle).ldk hlt, e1]
      simp only [Option.bind_some, one_int, decide_eq_false (show ¬ findF t.L l[i] 0 ≥ 0 from hf), cond_false]
      exact e3
/-- spec.l09Fix -/
theorem c_sl09Fix {r : Rg} {H : AH} {a b c v zs : Sl} {t : Tn} {l : List Int} (ht : TS H a b c t) (hok : tensorB r t = true) (hv : IS H v l) (hz : IS H zs (List.replicate l.length 0)) (hl : l.length ≤ 4) :
    ∃ a' b' c' t' H', R (.fn F.sl09Fix) [r.pv, tpv a b c, ssc v, ssc zs] H = some ⟨1, [tpv a' b' c'], H'⟩ ∧ NewT H H' a' b' c' t' ∧ tensorB r t' = true ∧ (t'.L, t'.D) = slP l (t.L, t.D) := by
  obtain ⟨a1, b1, c1, H1, e1, n1⟩ := n_sl05Copy ht (ok_small hok)
  obtain ⟨a2, b2, c2, t2, H2, e2, l2, n2, ok2, s2⟩ := c_sl09Fix_0 (r := r) (H0 := H) (p0 := (t.L, t.D)) (hv.le n1.le) (hz.le n1.le) hl l.length 0 H1 a1 b1 c1 t (by omega) (Go.Abs.Le.refl _) n1 hok rfl
  refine ⟨a2, b2, c2, t2, H2, ?_, n2, ok2, s2⟩
  have e2 : R (.loop F.sl09Fix 0) [ssc zs, ssc v, isc (l.length : Int), isc 0, r.pv, tpv a1 b1 c1] H1 = _ := e2
  rw [R_eq, e_sl09Fix, e1]
  simp only [Option.bind_some, o_sss]
  rw [hv.n, e2]
  simp only [Option.bind_some, Nat.beq, cond_true]
  rw [agg3z]
/-- spec.l15Slice: the open labels -/
theorem c_sl15Slice_0 {r : Rg} {H0 : AH} {v u z : Sl} {l op : List Int} (hv : IS H0 v l) (hu : IS H0 u op) (hl : l.length ≤ 4) (hol : op.length ≤ 12) (hn : ∀ x ∈ op, x ∉ l) :
    ∀ (k i : Nat) (H : AH) (so : Sl), i + k = op.length → Fr H0 H [(so, op.take i)] →
      ∃ so' H', R (.loop F.sl15Slice 0) [ssc v, ssc u, isc (op.length : Int), isc (i : Int), npv r z so] H = some ⟨2, [npv r z so'], H'⟩ ∧ Fr H0 H' [(so', op)]
  | 0, i, H, so, hi, hF => by
    obtain rfl : i = op.length := by omega
    rw [List.take_length] at hF
    exact ⟨so, H, by rw [R_eq, e_sl15Slice_0, lt_self]; rfl, hF⟩
  | k + 1, i, H, so, hi, hF => by
    have hlt : i < op.length := by omega
    have e1 := c_sl05Find (hv.le hF.le) (by omega) op[i]
    have hneg : findF l op[i] 0 < 0 := Int.not_le.1 fun h => hn _ (List.getElem_mem hlt) ((findF_mem l op[i] 0).1 h)
    obtain ⟨so1, H1, e2, F1⟩ := Fr.push [] (ys := []) (s := so) (l := op.take i) hF (by simp; omega) op[i]
    rw [← take_snoc' hlt] at F1
    obtain ⟨so2, H2, e3, F2⟩ := c_sl15Slice_0 (r := r) (z := z) hv hu hl hol hn k (i + 1) H1 so1 (by omega) F1
    refine ⟨so2, H2, ?_, F2⟩
    rw [R_eq, e_sl15Slice_0, lt_true hlt, w1 hlt (by omega), cond_true, (hu.le hF.le).ldk hlt, e1]
    simp only [Option.bind_some, one_int, decide_eq_true hneg, cond_true]
    rw [e2]
    exact e3
/-- spec.l15Slice: the tensors -/
theorem c_sl15Slice_1 {r : Rg} {H0 : AH} {v zs s u sOp : Sl} {l op : List Int} {ts : List Tn} (hv : IS H0 v l) (hz : IS H0 zs (List.replicate l.length 0)) (hl : l.length ≤ 4) (hT : T3 H0 s ts) (htl : ts.length ≤ 12) (hok : ∀ t ∈ ts, tensorB r t = true) :
    ∀ (k i : Nat) (H : AH) (so : Sl) (xs : List Tri) (acc : List Tn), i + k = ts.length → NetR H0 H so xs acc [(sOp, op)] → (∀ t ∈ acc, tensorB r t = true) → shp acc = (shp (ts.take i)).map (slP l) →
      ∃ s' xs' ts' H', R (.loop F.sl15Slice 1) [ssc v, ssc zs, ssc s, isc (ts.length : Int), isc (i : Int), npv r s u, npv r so sOp] H = some ⟨4, [npv r s' sOp], H'⟩ ∧ NetR H0 H' s' xs' ts' [(sOp, op)] ∧ (∀ t ∈ ts', tensorB r t = true) ∧ shp ts' = (shp ts).map (slP l)
  | 0, i, H, so, xs, acc, hi, hN, hA, hS => by
    obtain rfl : i = ts.length := by omega
    rw [List.take_length] at hS
    exact ⟨so, xs, acc, H, by rw [R_eq, e_sl15Slice_1, lt_self]; rfl, hN, hA, hS⟩
  | k + 1, i, H, so, xs, acc, hi, hN, hA, hS => by
    have hlt : i < ts.length := by omega
    have hal : acc.length = i := by
      have := congrArg List.length hS
      simpa [shp, Nat.min_eq_left (Nat.le_of_lt hlt)] using this
    obtain ⟨a, b, c, ht, kt⟩ := (hT.le hN.fr.le).ld hlt
    have hoki := hok _ (List.getElem_mem hlt)
    have lr := Go.Abs.Le.app H [resB]
    obtain ⟨a1, b1, c1, t1, H1, e1, n1, ok1, s1⟩ := c_sl09Fix (ht.le lr) hoki ((hv.le hN.fr.le).le lr) ((hz.le hN.fr.le).le lr) hl
    obtain ⟨so', H2, e2, F2, O2, l2, _⟩ := push_tensor hN.fr hN.out (by have := hN.len; omega) n1
    have F3 := Fr.snocT (xs := xs) (ts := acc) F2 hN.len
    obtain ⟨s', xs', ts', H3, e3, N3, A3, S3⟩ := c_sl15Slice_1 (u := u) hv hz hl hT htl hok k (i + 1) H2 so' (xs ++ [(a1, b1, c1)]) (acc ++ [t1]) (by omega) ⟨F3, by have := hN.len; simp [this], O2⟩
      (fun t ht' => by
        rcases List.mem_append.1 ht' with h | h
        · exact hA t h
        · simp at h; subst h; exact ok1)
      (by
        rw [take_snocT hlt]
        unfold shp at hS ⊢
        rw [List.map_append, hS, List.map_append, List.map_append]
        simp only [List.map_cons, List.map_nil, s1])
    refine ⟨s', xs', ts', H3, ?_, N3, A3, S3⟩
    rw [R_eq, e_sl15Slice_1, lt_true hlt, w1 hlt (by omega), cond_true, kt, reserve1, e1]
    simp only [Option.bind_some, o_sss]
    rw [e2]
    exact e3
theorem agg5 {α : Type} (r : Rg) (s u : Sl) (k : Int → Int → Int → Sl → Sl → Option α) : (((nthP [npv r s u] 0).bind PV.agg?).bind fun l12 => cond (decide (l12.length = 5)) ((intAt .i64 l12 0).bind fun n13 => (intAt .i64 l12 1).bind fun n14 => (intAt .i64 l12 2).bind fun n15 => (slAt l12 3).bind fun s16 => (slAt l12 4).bind fun s17 => k n13 n14 n15 s16 s17) none) = k r.k r.p r.n s u := rfl
/-- spec.l15Slice, at zeros -/
theorem c_sl15Slice {H : AH} {s u v zs : Sl} {n : Nw} {l : List Int} (h : NS H s u n) (hn : netB n = true) (hv : IS H v l) (hz : IS H zs (List.replicate l.length 0)) (hl : l.length ≤ 4) (hx : ∀ x ∈ n.op, x ∉ l) :
    ∃ s' u' m' H', R (.fn F.sl15Slice) [npv n.r s u, ssc v, ssc zs] H = some ⟨1, [npv n.r s' u'], H'⟩ ∧ Go.Abs.Le H H' ∧ NS H' s' u' m' ∧ m'.r = n.r ∧ m'.op = n.op ∧ (∀ t ∈ m'.ts, tensorB n.r t = true) ∧ shp m'.ts = slA l (shp n.ts) := by
  obtain ⟨b1, b2, b3⟩ := netB_small hn
  obtain ⟨so, H1, e1, F1⟩ := c_sl15Slice_0 (r := n.r) (z := ⟨0, 0, 0, 0, true⟩) hv h.op hl b2 hx n.op.length 0 H ⟨0, 0, 0, 0, true⟩ (by omega) (by simpa using (Fr.start H).empty 0)
  have N1 : NetR H H1 ⟨0, 0, 0, 0, true⟩ [] [] [(so, n.op)] := ⟨by simpa [rowsT] using F1, rfl, OOut.nil _ _ _⟩
  obtain ⟨s', xs', ts', H2, e2, N2, A2, S2'⟩ := c_sl15Slice_1 (r := n.r) (u := u) hv hz hl h.ts b1 (net_mem hn) n.ts.length 0 H1 ⟨0, 0, 0, 0, true⟩ [] [] (by omega) N1 (by simp) rfl
  refine ⟨s', so, ⟨n.r, ts', n.op⟩, H2, ?_, N2.fr.le, (N2.neto (r := n.r)).ns, rfl, rfl, A2, by rw [slA_map]; exact S2'⟩
  have e1 : R (.loop F.sl15Slice 0) [ssc v, ssc u, isc (n.op.length : Int), isc 0, npv n.r ⟨0, 0, 0, 0, true⟩ ⟨0, 0, 0, 0, true⟩] H = _ := e1
  have e2 : R (.loop F.sl15Slice 1) [ssc v, ssc zs, ssc s, isc (n.ts.length : Int), isc 0, npv n.r s u, npv n.r ⟨0, 0, 0, 0, true⟩ so] H1 = _ := e2
  rw [R_eq, e_sl15Slice, h.op.n, e1]
  simp only [Option.bind_some, Nat.beq, cond_true]
  rw [agg5, h.ts.1, e2]
  simp only [Option.bind_some, Nat.beq, cond_true]
  rw [agg5]
end Go.Abs
/- Plans: joins and what is kept (spec). -/
namespace Go.Abs
set_option linter.all false
set_option maxRecDepth 10000

theorem joinL_take (a b : List Int) {i : Nat} (h : i < b.length) : joinL a (b.take (i + 1)) = if (a.any fun y => b[i] == y) then joinL a (b.take i) else joinL a (b.take i) ++ [b[i]] := by
  unfold joinL
  rw [take_snoc h, colF_app]
  simp only [colF, List.append_nil]
  by_cases hc : (a.any fun y => b[i] == y) = true
  · rw [if_pos hc, if_pos hc]; simp
  · rw [if_neg hc, if_neg hc]; simp
theorem joinL_mem {a b : List Int} (hb : b.Nodup) {i : Nat} (h : i < b.length) : b[i] ∈ joinL a (b.take i) ↔ b[i] ∈ a := by
  unfold joinL
  constructor
  · intro hm
    rcases List.mem_append.1 hm with h1 | h1
    · exact h1
    · exfalso
      obtain ⟨j, y, hy, e⟩ := colF_mem h1
      split at e
      · cases e
      · cases e
        obtain ⟨k, hk, hkl, e2⟩ : ∃ k, k < i ∧ ∃ h : k < b.length, b[k] = b[i] := by
          obtain ⟨k, hk⟩ := List.getElem?_of_mem hy
          rw [List.getElem?_take] at hk
          split at hk
          · rename_i hki
            exact ⟨k, hki, by omega, by rw [List.getElem?_eq_getElem (by omega)] at hk; exact Option.some.inj hk⟩
          · cases hk
        have := (List.nodup_iff_pairwise_ne.1 hb)
        exact absurd e2 ((List.pairwise_iff_getElem.1 this) k i hkl h hk)
  · exact fun hm => List.mem_append.2 (.inl hm)
/-- spec.l08Join, of axes whose sizes are told by one function -/
theorem c_sl08Join {H : AH} {a b c a' b' c' : Sl} {L M : List Int} {dm : Int → Int} (hL : IS H a L) (hD : IS H b (L.map dm)) (hM : IS H a' M) (hE : IS H b' (M.map dm)) (hn : M.Nodup) (hs : L.length + M.length ≤ 100000) :
    ∃ s1 s2 H', R (.fn F.sl08Join) [tpv a b c, tpv a' b' c'] H = some ⟨1, [ssc s1, ssc s2, bsc true], H'⟩ ∧ Go.Abs.Le H H' ∧ IS H' s1 (joinL L M) ∧ IS H' s2 ((joinL L M).map dm) := by
  obtain ⟨s1, H1, e1, l1, o1⟩ := c_sl05Ints hL (by omega)
  obtain ⟨s2, H2, e2, l2, o2⟩ := c_sl05Ints (hD.le l1) (by simp; omega)
  have F2 : Fr H H2 [(s2, L.map dm), (s1, L)] := ((Fr.start H).new l1 o1).new l2 o2
  have loop : ∀ (k i : Nat), i + k = M.length → ∀ (Hc : AH) (u1 u2 : Sl), Fr H Hc [(u2, (joinL L (M.take i)).map dm), (u1, joinL L (M.take i))] →
      ∃ v1 v2 H', R (.loop F.sl08Join 0) [ssc u1, ssc u2, ssc a', isc (M.length : Int), isc (i : Int), tpv a' b' c'] Hc = some ⟨2, [ssc v1, ssc v2], H'⟩ ∧ Fr H H' [(v2, (joinL L M).map dm), (v1, joinL L M)] := by
    intro k
    induction k with
    | zero =>
      intro i hi Hc u1 u2 hF
      obtain rfl : i = M.length := by omega
      rw [List.take_length] at hF
      exact ⟨u1, u2, Hc, by rw [R_eq, e_sl08Join_0, lt_self]; rfl, hF⟩
    | succ k ih =>
      intro i hi Hc u1 u2 hF
      have hlt : i < M.length := by omega
      have hjl : (joinL L (M.take i)).length ≤ 100000 := Nat.le_trans (joinL_len _ _) (by simp; omega)
      have e3 := c_sl05Find (hF.is (s := u1) (l := joinL L (M.take i)) (by simp)) (by omega) M[i]
      have hmem := joinL_mem (a := L) hn hlt
      have hany : (L.any fun y => M[i] == y) = true ↔ M[i] ∈ L := by simp
      have hltd : i < (M.map dm).length := by simpa using hlt
      by_cases hin : M[i] ∈ L
      · have hf := (findF_mem (joinL L (M.take i)) M[i] 0).2 (hmem.2 hin)
        obtain ⟨p, hp⟩ : ∃ p : Nat, findF (joinL L (M.take i)) M[i] 0 = (p : Int) := ⟨(findF (joinL L (M.take i)) M[i] 0).toNat, by omega⟩
        obtain ⟨_, hpl, hpx⟩ := findF_at hp
        simp only [Nat.sub_zero] at hpl hpx
        have hpd : p < ((joinL L (M.take i)).map dm).length := by simpa using hpl
        have hj := joinL_take L M hlt
        rw [if_pos (hany.2 hin)] at hj
        obtain ⟨v1, v2, H', e, F3⟩ := ih (i + 1) (by omega) Hc u1 u2 (by rw [hj]; exact hF)
        refine ⟨v1, v2, H', ?_, F3⟩
        have hne : (((joinL L (M.take i)).map dm)[p] != (M.map dm)[i]) = false := by
          simp only [List.getElem_map, hpx]; exact ne_i _
        rw [R_eq, e_sl08Join_0, lt_true hlt, w1 hlt (by omega), cond_true, (hM.le hF.le).ldk hlt, e3]
        simp only [Option.bind_some, one_int]
        rw [decide_eq_true (show findF (joinL L (M.take i)) M[i] 0 ≥ 0 from hf), cond_true, hp, (hF.is (s := u2) (l := (joinL L (M.take i)).map dm) (by simp)).ldk hpd, (hE.le hF.le).ldk hltd, hne, cond_false]
        simp only [Option.bind_some, Nat.beq, cond_true]
        rw [decide_eq_false (show ¬ (p : Int) < 0 by omega), cond_false]
        exact e
      · have hf : ¬ 0 ≤ findF (joinL L (M.take i)) M[i] 0 := fun h => hin (hmem.1 ((findF_mem _ _ 0).1 h))
        have hj := joinL_take L M hlt
        rw [if_neg (fun h => hin (hany.1 h))] at hj
        obtain ⟨u1', H3, e4, F3⟩ := Fr.push [(u2, (joinL L (M.take i)).map dm)] (ys := []) (s := u1) (l := joinL L (M.take i)) hF (by omega) M[i]
        obtain ⟨u2', H4, e5, F4⟩ := Fr.push [] (ys := [(u1', joinL L (M.take i) ++ [M[i]])]) (s := u2) (l := (joinL L (M.take i)).map dm) F3 (by simp; omega) (dm M[i])
        have F3' : Fr H H3 [(u2, (joinL L (M.take i)).map dm), (u1', joinL L (M.take i) ++ [M[i]])] := F3
        have F4' : Fr H H4 [(u2', (joinL L (M.take (i + 1))).map dm), (u1', joinL L (M.take (i + 1)))] := by
          rw [hj, List.map_append]; exact F4
        obtain ⟨v1, v2, H', e, F5⟩ := ih (i + 1) (by omega) H4 u1' u2' F4'
        refine ⟨v1, v2, H', ?_, F5⟩
        have hdi : (M.map dm)[i] = dm M[i] := by simp
        rw [R_eq, e_sl08Join_0, lt_true hlt, w1 hlt (by omega), cond_true, (hM.le hF.le).ldk hlt, e3]
        simp only [Option.bind_some, one_int]
        rw [decide_eq_false (show ¬ findF (joinL L (M.take i)) M[i] 0 ≥ 0 from hf), cond_false]
        simp only [Option.bind_some, Nat.beq, cond_true]
        rw [decide_eq_true (show findF (joinL L (M.take i)) M[i] 0 < 0 from Int.not_le.1 hf), cond_true, e4, (hE.le F3'.le).ldk hltd, hdi, e5]
        exact e
  have hj0 : joinL L (M.take 0) = L := by simp [joinL, colF]
  obtain ⟨v1, v2, H', e, F3⟩ := loop M.length 0 (by omega) H2 s1 s2 (by rw [hj0]; exact F2)
  refine ⟨v1, v2, H', ?_, F3.le, F3.is (by simp), F3.is (by simp)⟩
  have e : R (.loop F.sl08Join 0) [ssc s1, ssc s2, ssc a', isc (M.length : Int), isc 0, tpv a' b' c'] H2 = _ := e
  rw [R_eq, e_sl08Join, e1]
  simp only [Option.bind_some, one_sl]
  rw [e2]
  simp only [Option.bind_some, one_sl]
  rw [hM.n, e]
  rfl
/-- spec.l08Keep -/
theorem c_sl08Keep {H : AH} {s1 s2 s3 : Sl} {L K : List Int} {dm : Int → Int} (hL : IS H s1 L) (hD : IS H s2 (L.map dm)) (hK : IS H s3 K) (hl : L.length ≤ 100000) (hk : K.length ≤ 1048576) :
    ∃ a b H', R (.fn F.sl08Keep) [ssc s1, ssc s2, ssc s3] H = some ⟨1, [tpv a b ⟨0, 0, 0, 0, true⟩], H'⟩ ∧ Fr H H' [(a, L.filter fun x => K.any fun y => x == y), (b, (L.filter fun x => K.any fun y => x == y).map dm)] := by
  have loop : ∀ (k i : Nat), i + k = L.length → ∀ (Hc : AH) (u1 u2 : Sl), Fr H Hc [(u1, (L.take i).filter fun x => K.any fun y => x == y), (u2, ((L.take i).filter fun x => K.any fun y => x == y).map dm)] →
      ∃ v1 v2 H', R (.loop F.sl08Keep 0) [ssc s2, ssc s3, ssc s1, isc (L.length : Int), isc (i : Int), tpv u1 u2 ⟨0, 0, 0, 0, true⟩] Hc = some ⟨2, [tpv v1 v2 ⟨0, 0, 0, 0, true⟩], H'⟩ ∧ Fr H H' [(v1, L.filter fun x => K.any fun y => x == y), (v2, (L.filter fun x => K.any fun y => x == y).map dm)] := by
    intro k
    induction k with
    | zero =>
      intro i hi Hc u1 u2 hF
      obtain rfl : i = L.length := by omega
      rw [List.take_length] at hF
      exact ⟨u1, u2, Hc, by rw [R_eq, e_sl08Keep_0, lt_self]; rfl, hF⟩
    | succ k ih =>
      intro i hi Hc u1 u2 hF
      have hlt : i < L.length := by omega
      have hltd : i < (L.map dm).length := by simpa using hlt
      have hfl : ((L.take i).filter fun x => K.any fun y => x == y).length ≤ 100000 := Nat.le_trans (List.length_filter_le _ _) (by simp; omega)
      have e3 := c_sl05Find (hK.le hF.le) hk L[i]
      have hfa := find_any K L[i]
      have hsn : (L.take (i + 1)).filter (fun x => K.any fun y => x == y) = (L.take i).filter (fun x => K.any fun y => x == y) ++ (if (K.any fun y => L[i] == y) then [L[i]] else []) := by
        rw [take_snoc hlt, List.filter_append]
        congr 1
        simp only [List.filter_cons, List.filter_nil]
      cases hc : (K.any fun y => L[i] == y) with
      | false =>
        rw [hc] at hfa hsn
        simp only [Bool.false_eq_true, if_false, List.append_nil] at hsn
        obtain ⟨v1, v2, H', e, F5⟩ := ih (i + 1) (by omega) Hc u1 u2 (by rw [hsn]; exact hF)
        refine ⟨v1, v2, H', ?_, F5⟩
        rw [R_eq, e_sl08Keep_0, lt_true hlt, w1 hlt (by omega), cond_true, (hL.le hF.le).ldk hlt, e3]
        simp only [Option.bind_some, one_int, hfa, cond_false]
        exact e
      | true =>
        rw [hc] at hfa hsn
        simp only [if_true] at hsn
        obtain ⟨u1', H3, e4, F3⟩ := Fr.push [] (ys := [(u2, ((L.take i).filter fun x => K.any fun y => x == y).map dm)]) (s := u1) (l := (L.take i).filter fun x => K.any fun y => x == y) hF (by omega) L[i]
        obtain ⟨u2', H4, e5, F4⟩ := Fr.push [(u1', ((L.take i).filter fun x => K.any fun y => x == y) ++ [L[i]])] (ys := []) (s := u2) (l := ((L.take i).filter fun x => K.any fun y => x == y).map dm) F3 (by simp; omega) (dm L[i])
        have F3' : Fr H H3 [(u1', ((L.take i).filter fun x => K.any fun y => x == y) ++ [L[i]]), (u2, ((L.take i).filter fun x => K.any fun y => x == y).map dm)] := F3
        obtain ⟨v1, v2, H', e, F5⟩ := ih (i + 1) (by omega) H4 u1' u2' (by rw [hsn, List.map_append]; exact F4)
        refine ⟨v1, v2, H', ?_, F5⟩
        have hdi : (L.map dm)[i] = dm L[i] := by simp
        have hnb : newAt (H3 ++ [resB]) (H3.length + 0) 1 [.int .i64 (dm L[i])] = newB H3 1 [.int .i64 (dm L[i])] := by
          rw [Nat.add_zero, newAt_ok (by simp) (by omega)]
          simp [newB]
        rw [R_eq, e_sl08Keep_0, lt_true hlt, w1 hlt (by omega), cond_true, (hL.le hF.le).ldk hlt, e3]
        simp only [Option.bind_some, one_int, hfa, cond_true]
        rw [e4, reserve1, (hD.le (F3'.le.trans (Go.Abs.Le.app H3 [resB]))).ldk hltd, hdi, hnb, e5]
        exact e
  obtain ⟨v1, v2, H', e, F3⟩ := loop L.length 0 (by omega) H ⟨0, 0, 0, 0, true⟩ ⟨0, 0, 0, 0, true⟩ (((Fr.start H).empty 0).empty 0)
  refine ⟨v1, v2, H', ?_, F3⟩
  have e : R (.loop F.sl08Keep 0) [ssc s2, ssc s3, ssc s1, isc (L.length : Int), isc 0, tpv ⟨0, 0, 0, 0, true⟩ ⟨0, 0, 0, 0, true⟩ ⟨0, 0, 0, 0, true⟩] H = _ := e
  rw [R_eq, e_sl08Keep, hL.n, e]
  simp only [Option.bind_some, Nat.beq, cond_true]
  rw [agg3z]
end Go.Abs
/- Plans: the shapes of tensors and results (spec): what is kept. -/
namespace Go.Abs
set_option linter.all false
set_option maxRecDepth 10000

theorem IS.keepB {H H' : AH} {s : Sl} {l : List Int} (h : IS H s l) (hb : l ≠ [] → H'[s.b]? = H[s.b]?) : IS H' s l := by
  by_cases hl : l = []
  · exact ⟨h.n, h.c, .inl hl⟩
  · refine ⟨h.n, h.c, h.rd.imp id fun ⟨cs, h1, h2⟩ => ⟨cs, ?_, h2⟩⟩
    unfold rdB at h1 ⊢
    rw [hb hl]; exact h1
/-- The state of the shapes: rows of labels and sizes, and which are gone. -/
structure LS (H0 H : AH) (bs : Nat) (sa sg : Sl) (xs : List Tri) (al : List (List Int)) (gn : List Bool) (dm : Int → Int) : Prop where
  le : Go.Abs.Le H0 H
  blk : H[bs]? = some ⟨[.sl sa, .sl sg], .rw, 2⟩
  lo : H0.length ≤ bs
  all : OOut H0.length H sa xs
  gone : CO 1 H0.length H sg (bcs gn)
  len : al.length = xs.length
  glen : gn.length = xs.length
  labs : ∀ (i : Nat) x l, xs[i]? = some x → al[i]? = some l → IS H x.1 l ∧ IS H x.2.1 (l.map dm)
theorem LS.ext {H0 H H' : AH} {bs : Nat} {sa sg : Sl} {xs : List Tri} {al : List (List Int)} {gn : List Bool} {dm : Int → Int} (h : LS H0 H bs sa sg xs al gn dm) (k : Go.Abs.Le H H') : LS H0 H' bs sa sg xs al gn dm :=
  ⟨h.le.trans k, by rw [k.get _ (List.getElem?_eq_some_iff.1 h.blk).1]; exact h.blk, h.lo, h.all.le k, h.gone.le k, h.len, h.glen, fun i x l hx hl => let ⟨a, b⟩ := h.labs i x l hx hl; ⟨a.le k, b.le k⟩⟩
theorem LS.rd {H0 H : AH} {bs : Nat} {sa sg : Sl} {xs : List Tri} {al : List (List Int)} {gn : List Bool} {dm : Int → Int} (h : LS H0 H bs sa sg xs al gn dm) : rdB H bs = some [.sl sa, .sl sg] := by unfold rdB; rw [h.blk]; rfl
/-- What the steps may keep, of tensor numbers from i on. -/
def keepL (a b : Int) : List (List Int) → List Bool → Nat → List Int
  | l :: al, g :: gn, i => (if !g && ((i : Int) != a && (i : Int) != b) then l else []) ++ keepL a b al gn (i + 1)
  | _, _, _ => []
theorem keepL_drop (a b : Int) {al : List (List Int)} {gn : List Bool} {i : Nat} (h1 : i < al.length) (h2 : i < gn.length) : keepL a b (al.drop i) (gn.drop i) i = (if !gn[i] && ((i : Int) != a && (i : Int) != b) then al[i] else []) ++ keepL a b (al.drop (i + 1)) (gn.drop (i + 1)) (i + 1) := by
  rw [List.drop_eq_getElem_cons h1, List.drop_eq_getElem_cons h2]
  rfl
theorem keepL_len (a b : Int) : ∀ (al : List (List Int)) (gn : List Bool) (i : Nat), (∀ l ∈ al, l.length ≤ 1000) → (keepL a b al gn i).length ≤ al.length * 1000
  | [], gn, i, _ => by simp [keepL]
  | l :: al, [], i, _ => by simp [keepL]
  | l :: al, g :: gn, i, h => by
    have ih := keepL_len a b al gn (i + 1) fun x hx => h x (List.mem_cons_of_mem _ hx)
    have hl := h l List.mem_cons_self
    simp only [keepL, List.length_append, List.length_cons]
    split
    · omega
    · simp; omega
end Go.Abs
/- Plans: what a step keeps (spec). -/
namespace Go.Abs
set_option linter.all false
set_option maxRecDepth 10000

theorem CO.bool {n0 : Nat} {H : AH} {s : Sl} {gn : List Bool} (h : CO 1 n0 H s (bcs gn)) {i : Nat} (hi : i < gn.length) : H[s.b]? = some ⟨bcs gn, .rw, 1⟩ ∧ s.o = 0 ∧ s.n = gn.length := by
  have hn : s.n = gn.length := by have := h.n; simpa [bcs] using this
  refine ⟨?_, h.o, hn⟩
  rcases h.blk with ⟨e, _⟩ | ⟨_, _, e⟩
  · have := congrArg List.length e
    simp [bcs] at this
    subst this
    simp at hi
  · exact e
theorem CO.ldb {n0 : Nat} {H : AH} {s : Sl} {gn : List Bool} (h : CO 1 n0 H s (bcs gn)) {i : Nat} (hi : i < gn.length) {α : Type} (k : Bool → Option α) : ((ixA s (i : Int) 1).bind fun o => (rdB H s.b).bind fun c => (boolAt c o).bind k) = k gn[i] := by
  obtain ⟨h1, h2, h3⟩ := h.bool hi
  rw [ixA_nat (by omega)]
  have hr : rdB H s.b = some (bcs gn) := by unfold rdB; rw [h1]; rfl
  simp only [Option.bind_some, hr, h2, Nat.zero_add, Nat.mul_one]
  have : boolAt (bcs gn) i = some gn[i] := by
    unfold boolAt
    simp [bcs, hi]
  rw [this]; rfl
theorem OOut.ld {n0 : Nat} {H : AH} {s : Sl} {xs : List Tri} (h : OOut n0 H s xs) {i : Nat} (hi : i < xs.length) {α : Type} (k : Sl → Sl → Sl → Option α) :
    ((ixA s (i : Int) 3).bind fun o => (rdB H s.b).bind fun q => (slAt q o).bind fun x => (slAt q (o + 1)).bind fun y => (slAt q (o + 1 + 1)).bind fun z => k x y z) = k xs[i].1 xs[i].2.1 xs[i].2.2 := by
  obtain ⟨cs, h1, h2, h3, h4, h5⟩ := h.outer.rd (List.getElem?_eq_getElem hi)
  rw [h2]
  simp only [Option.bind_some, h1, slAt_get h3, slAt_get h4]
  rw [show i * 3 + 1 + 1 = i * 3 + 2 from rfl, slAt_get h5]
  rfl
/-- spec.l17Keep: the tensors -/
theorem c_sl17Keep_0 {H0 H1 : AH} {bs : Nat} {sa sg : Sl} {xs : List Tri} {al : List (List Int)} {gn : List Bool} {dm : Int → Int} (hS : LS H0 H1 bs sa sg xs al gn dm) (hx : xs.length ≤ 1000) (hal : ∀ l ∈ al, l.length ≤ 1000) (a b : Int) :
    ∀ (k i : Nat) (H : AH) (u : Sl) (acc : List Int), i + k = xs.length → Fr H1 H [(u, acc)] → acc.length ≤ 100000 + i * 1000 →
      ∃ u' H', R (.loop F.sl17Keep 0) [.sc (.hp bs 0), isc a, isc b, ssc u, ssc sa, isc (xs.length : Int), isc (i : Int)] H = some ⟨2, [ssc u'], H'⟩ ∧ Fr H1 H' [(u', acc ++ keepL a b (al.drop i) (gn.drop i) i)]
  | 0, i, H, u, acc, hi, hF, ha => by
    obtain rfl : i = xs.length := by omega
    refine ⟨u, H, by rw [R_eq, e_sl17Keep_0, lt_self]; rfl, ?_⟩
    rw [← hS.len, List.drop_eq_nil_of_le (Nat.le_refl _)]
    simpa [keepL] using hF
  | k + 1, i, H, u, acc, hi, hF, ha => by
    have hlt : i < xs.length := by omega
    have hla : i < al.length := by rw [hS.len]; exact hlt
    have hlg : i < gn.length := by rw [hS.glen]; exact hlt
    have S1 := hS.ext hF.le
    obtain ⟨q1, q2⟩ := S1.labs i _ _ (List.getElem?_eq_getElem hlt) (List.getElem?_eq_getElem hla)
    have hli := hal _ (List.getElem_mem hla)
    have hsl : slAt [Sc.sl sa, Sc.sl sg] (0 + 1) = some sg := rfl
    rw [keepL_drop a b hla hlg]
    have hcond : (cond (!gn[i]) (cond ((i : Int) != a) (some (⟨0, [.sc (.bool ((i : Int) != b))], H⟩ : Out)) (some ⟨0, [.sc (.bool false)], H⟩)) (some ⟨0, [.sc (.bool false)], H⟩)) = some ⟨0, [bsc (!gn[i] && ((i : Int) != a && (i : Int) != b))], H⟩ := by
      cases gn[i] <;> cases (i : Int) != a <;> rfl
    have hstep : R (.loop F.sl17Keep 0) [.sc (.hp bs 0), isc a, isc b, ssc u, ssc sa, isc (xs.length : Int), isc (i : Int)] H = cond (!gn[i] && ((i : Int) != a && (i : Int) != b))
        ((rng H xs[i].1.b xs[i].1.o (xs[i].1.n * 1)).bind fun l21 => (appB H 1 8 u l21 xs[i].1.n).bind fun m22 => R (.loop F.sl17Keep 0) [.sc (.hp bs 0), isc a, isc b, ssc m22.1, ssc sa, isc (xs.length : Int), isc ((i + 1 : Nat) : Int)] m22.2)
        (R (.loop F.sl17Keep 0) [.sc (.hp bs 0), isc a, isc b, ssc u, ssc sa, isc (xs.length : Int), isc ((i + 1 : Nat) : Int)] H) := by
      rw [R_eq, e_sl17Keep_0, lt_true hlt, w1 hlt (by omega), cond_true, S1.all.ld hlt, S1.rd]
      simp only [Option.bind_some, hsl]
      rw [S1.gone.ldb hlg, hcond]
      rfl
    rw [hstep]
    cases hc : (!gn[i] && ((i : Int) != a && (i : Int) != b)) with
    | false =>
      simp only [cond_false, Bool.false_eq_true, if_false, List.nil_append]
      exact c_sl17Keep_0 hS hx hal a b k (i + 1) H u acc (by omega) hF (by omega)
    | true =>
      simp only [cond_true, if_true]
      obtain ⟨u1, H2, e2, F2, l2⟩ := Fr.app [] (ys := []) (s := u) (l := acc) (m := al[i]) hF (by omega)
      obtain ⟨u2, H3, e3, F3⟩ := c_sl17Keep_0 hS hx hal a b k (i + 1) H2 u1 (acc ++ al[i]) (by omega) F2 (by simp; omega)
      refine ⟨u2, H3, ?_, ?_⟩
      · rw [q1.rng]
        simp only [Option.bind_some]
        rw [q1.n, e2]
        exact e3
      · rw [List.append_assoc] at F3; exact F3
/-- spec.l17Keep -/
theorem c_sl17Keep {H0 H : AH} {bs : Nat} {sa sg su : Sl} {xs : List Tri} {al : List (List Int)} {gn : List Bool} {op : List Int} {dm : Int → Int} (hS : LS H0 H bs sa sg xs al gn dm) (hx : xs.length ≤ 1000) (hal : ∀ l ∈ al, l.length ≤ 1000) (ho : IS H su op) (hol : op.length ≤ 1000) (a b : Int) :
    ∃ u H', R (.fn F.sl17Keep) [.sc (.hp bs 0), ssc su, isc a, isc b] H = some ⟨1, [ssc u], H'⟩ ∧ Go.Abs.Le H H' ∧ IS H' u (op ++ keepL a b al gn 0) := by
  obtain ⟨s1, H1, e1, l1, o1⟩ := c_sl05Ints ho (by omega)
  have S1 := hS.ext l1
  have F1 : Fr H H1 [(s1, op)] := (Fr.start H).new l1 o1
  have F1' : Fr H1 H1 [] := Fr.start H1
  have loop := c_sl17Keep_0 (H1 := H) hS hx hal a b xs.length 0 H1 s1 op (by omega) F1 (by omega)
  obtain ⟨u, H2, e2, F2⟩ := loop
  rw [List.drop_zero, List.drop_zero] at F2
  refine ⟨u, H2, ?_, F2.le, F2.is (by simp)⟩
  have e2 : R (.loop F.sl17Keep 0) [.sc (.hp bs 0), isc a, isc b, ssc s1, ssc sa, isc (xs.length : Int), isc 0] H1 = _ := e2
  have hsl : slAt [Sc.sl sa, Sc.sl sg] (0 + 0) = some sa := rfl
  rw [R_eq, e_sl17Keep, e1]
  simp only [Option.bind_some, one_sl]
  rw [S1.rd]
  simp only [Option.bind_some, hsl]
  rw [S1.all.n, e2]
  rfl
end Go.Abs
/- Plans: a step (spec). -/
namespace Go.Abs
set_option linter.all false
set_option maxRecDepth 10000

theorem is_ne {H : AH} {s : Sl} {l : List Int} (h : IS H s l) (hl : l ≠ []) {b z : Nat} {cs : List Sc} (hb : H[b]? = some ⟨cs, .rw, z⟩) (hc : ∀ c ∈ cs, ∀ k i, c ≠ .int k i) : s.b ≠ b := fun e => by
  rcases h.rd with h1 | ⟨cs', h1, h2⟩
  · exact hl h1
  · have hr : rdB H s.b = some cs := by unfold rdB; rw [e, hb]; rfl
    rw [hr] at h1
    cases h1
    have hp : 0 < l.length := List.length_pos_iff.2 hl
    have := h2 0 _ (List.getElem?_eq_getElem hp)
    exact hc _ (List.mem_of_getElem? this) _ _ rfl
theorem triC_noint : ∀ (xs : List Tri), ∀ c ∈ triC xs, ∀ k i, c ≠ .int k i
  | [], c, hc, _, _ => by simp [triC] at hc
  | x :: xs, c, hc, k, i => by
    simp only [triC] at hc
    rcases List.mem_cons.1 hc with rfl | hc
    · intro e; cases e
    rcases List.mem_cons.1 hc with rfl | hc
    · intro e; cases e
    rcases List.mem_cons.1 hc with rfl | hc
    · intro e; cases e
    exact triC_noint xs c hc k i
theorem bcs_noint (gn : List Bool) : ∀ c ∈ bcs gn, ∀ k i, c ≠ .int k i := fun c hc k i e => by
  subst e
  simp [bcs] at hc
theorem two_noint (a b : Sl) : ∀ c ∈ [Sc.sl a, Sc.sl b], ∀ k i, c ≠ .int k i := fun c hc k i e => by
  subst e; simp at hc
theorem c_sl05Product_g {H : AH} {s : Sl} {l : List Int} (h : IS H s l) (hm : l.length ≤ 1048576) (hd : ∀ d ∈ l, 1 ≤ d ∧ d ≤ 8) : R (.fn F.sl05Product) [ssc s, isc 1000000000] H = some ⟨1, [isc (min (prd l) 1000000001)], H⟩ := by
  rw [R_eq, e_sl05Product, h.1]
  have := loopS (F := fun (a : Int) (i : Nat) => R (.loop F.sl05Product 0) [isc 1000000000, isc a, ssc s, isc (l.length : Int), isc (i : Int)] H) (l := l) (fun a _ => 0 ≤ a ∧ a ≤ 1000000001) (fun a l _ => some ⟨2, [isc (prodC 1000000000 a l)], H⟩)
    (fun a _ => by rw [R_eq, e_sl05Product_0, lt_self]; rfl) (fun a i hi r ha ih => by
      rw [R_eq, e_sl05Product_0, h.ldk hi, lt_true hi, w1 hi (by omega)]
      have hdi := hd l[i] (List.getElem_mem hi)
      have h1 : 0 ≤ a * l[i] := Int.mul_nonneg ha.1 (by omega)
      have h2 : a * l[i] ≤ 1000000001 * 8 := Int.mul_le_mul ha.2 hdi.2 (by omega) (by omega)
      have e1 : IntKind.wrap .i64 (a * l[i]) = a * l[i] := by rw [wrap_id] <;> omega
      have e2 : IntKind.wrap .i64 ((1000000000 : Int) + 1) = 1000000001 := by rw [wrap_id] <;> omega
      simp only [cond_true, e1, e2, prodC]
      exact ih _ (by split <;> omega)) 1 (by omega)
  have e := prodC_min 1000000000 l 1 (by omega) (by omega) fun d hx => (hd d hx).1
  rw [Int.one_mul] at e
  rw [show ((0 : Int)) = ((0 : Nat) : Int) from rfl, this, e]
  rfl
theorem t_ssb {α : Type} (a b : Sl) (q : Bool) (K : Sl → Sl → Bool → Option α) : ((lenP [ssc a, ssc b, bsc q] 3).bind fun _ => (nthP [ssc a, ssc b, bsc q] 0).bind fun p16 => p16.sc?.bind fun c17 => (slAt [c17] 0).bind fun s18 => (nthP [ssc a, ssc b, bsc q] 1).bind fun p19 => p19.sc?.bind fun c20 => (slAt [c20] 0).bind fun s21 => (nthP [ssc a, ssc b, bsc q] 2).bind fun p22 => p22.sc?.bind fun c23 => (boolAt [c23] 0).bind fun b24 => K s18 s21 b24) = K a b q := rfl
/-- spec.l17Step -/
theorem c_sl17Step {H0 H : AH} {bs : Nat} {sa sg su : Sl} {xs : List Tri} {al : List (List Int)} {gn : List Bool} {op : List Int} {dm : Int → Int} (hS : LS H0 H bs sa sg xs al gn dm) (hx : xs.length ≤ 500) (hal : ∀ l ∈ al, l.length ≤ 1000 ∧ l.Nodup ∧ LabsOk dm l) (ho : IS H su op) (hou : IS H0 su op) (hol : op.length ≤ 1000) {i j : Nat} (hi : i < al.length) (hj : j < al.length) :
    ∃ sa' sg' x' H', R (.fn F.sl17Step) [.sc (.hp bs 0), ssc su, .agg [.int .i64 (i : Int), .int .i64 (j : Int)]] H = some ⟨1, [isc (costL dm (joinL al[i] al[j]))], H'⟩ ∧
      LS H0 H' bs sa' sg' (xs ++ [x']) (al ++ [(joinL al[i] al[j]).filter fun x => (op ++ keepL i j al gn 0).any fun y => x == y]) (((gn.set i true).set j true) ++ [false]) dm ∧ H.length ≤ H'.length ∧ (∀ d, d < H.length → d ≠ bs → d ≠ sa.b → d ≠ sg.b → H'[d]? = H[d]?) ∧ (((joinL al[i] al[j]).filter fun x => (op ++ keepL i j al gn 0).any fun y => x == y) ≠ [] → H.length ≤ x'.1.b ∧ H.length ≤ x'.2.1.b) := by
  have hix : i < xs.length := by rw [← hS.len]; exact hi
  have hjx : j < xs.length := by rw [← hS.len]; exact hj
  have hig : i < gn.length := by rw [hS.glen]; exact hix
  have hjg : j < gn.length := by rw [hS.glen]; exact hjx
  have hxne : xs ≠ [] := fun e => by rw [e] at hix; simp at hix
  obtain ⟨a1, a2⟩ := hS.labs i _ _ (List.getElem?_eq_getElem hix) (List.getElem?_eq_getElem hi)
  obtain ⟨b1, b2⟩ := hS.labs j _ _ (List.getElem?_eq_getElem hjx) (List.getElem?_eq_getElem hj)
  have hmi := hal _ (List.getElem_mem hi)
  have hmj := hal _ (List.getElem_mem hj)
  obtain ⟨s18, s21, H1, e1, l1, o1, o2⟩ := c_sl08Join (c := xs[i].2.2) (c' := xs[j].2.2) a1 a2 b1 b2 hmj.2.1 (by omega)
  have hjl := joinL_len al[i] al[j]
  obtain ⟨s28, H2, e2, l2, o3⟩ := c_sl17Keep (hS.ext l1) (by omega) (fun l hl => (hal l hl).1) (ho.le l1) hol (i : Int) (j : Int)
  have hkl := keepL_len (i : Int) (j : Int) al gn 0 (fun l hl => (hal l hl).1)
  obtain ⟨v1, v2, H3, e3, F3⟩ := c_sl08Keep (o1.le l2) (o2.le l2) o3 (by omega) (by rw [List.length_append]; have := hS.len; omega)
  have l3 := F3.le
  have S3 := ((hS.ext l1).ext l2).ext l3
  have l13 := (l1.trans l2).trans l3
  have hlen13 := l13.len
  have hbs3 : bs < H3.length := (List.getElem?_eq_some_iff.1 S3.blk).1
  obtain ⟨hgb, hgo, hgn⟩ := S3.gone.bool hig
  have hsab : H3[sa.b]? = some ⟨triC xs, .rw, 3⟩ ∧ H0.length ≤ sa.b := by
    rcases S3.all.blk with ⟨e, _⟩ | ⟨_, h1, h2⟩
    · exact absurd e hxne
    · exact ⟨h2, h1⟩
  have hsgb : H0.length ≤ sg.b := by
    rcases S3.gone.blk with ⟨e, _⟩ | ⟨_, h1, _⟩
    · have := congrArg List.length e
      simp [bcs] at this
      subst this; simp at hig
    · exact h1
  have n1 : sg.b ≠ bs := fun e => by rw [e, S3.blk] at hgb; simp at hgb
  have n2 : sa.b ≠ bs := fun e => by have h := hsab.1; rw [e, S3.blk] at h; simp at h
  have n3 : sa.b ≠ sg.b := fun e => by have h := hsab.1; rw [e, hgb] at h; simp at h
  have hsg3 : sg.b < H3.length := (List.getElem?_eq_some_iff.1 hgb).1
  have hsa3 : sa.b < H3.length := (List.getElem?_eq_some_iff.1 hsab.1).1
  -- the two are gone
  have hgl : gn.length ≤ 500 := by rw [hS.glen]; exact hx
  have p1 : putR H3 sg.b (sg.o + i * 1) [.bool true] = some (H3.set sg.b ⟨bcs (gn.set i true), .rw, 1⟩) := by
    rw [hgo, Nat.zero_add, Nat.mul_one, put_cell hgb (by simpa [bcs] using hig)]
    congr 3
    simp [bcs, List.map_set]
  have p2 : putR (H3.set sg.b ⟨bcs (gn.set i true), .rw, 1⟩) sg.b (sg.o + j * 1) [.bool true] = some (H3.set sg.b ⟨bcs ((gn.set i true).set j true), .rw, 1⟩) := by
    rw [hgo, Nat.zero_add, Nat.mul_one, put_cell (set_get hgb) (by simpa [bcs] using hjg), set_set]
    congr 3
    simp [bcs, List.map_set]
  generalize hgn2 : (gn.set i true).set j true = gn2 at *
  have hgn2l : gn2.length = gn.length := by rw [← hgn2]; simp
  generalize hH5 : H3.set sg.b ⟨bcs gn2, .rw, 1⟩ = H5 at *
  have l5 : H5.length = H3.length := by rw [← hH5]; simp
  have f5 : ∀ d, d ≠ sg.b → H5[d]? = H3[d]? := fun d hd => by rw [← hH5]; exact List.getElem?_set_ne (Ne.symm hd)
  have g5 : H5[sg.b]? = some ⟨bcs gn2, .rw, 1⟩ := by rw [← hH5]; exact set_get hgb
  have le05 : Go.Abs.Le H0 H5 := ⟨by rw [l5]; exact S3.le.len, fun d hd => by rw [f5 d (by omega)]; exact S3.le.get d hd⟩
  have all5 : OOut H0.length H5 sa xs := S3.all.keep fun _ => f5 _ n3
  -- the row of all
  have le6 := Go.Abs.Le.app H5 [⟨[.sl v1, .sl v2, .sl ⟨0, 0, 0, 0, true⟩], .rw, 3⟩]
  obtain ⟨sa', H6, e6, _, O6, l6, f6⟩ := outer_push (rs := []) (Fr.of (le05.trans le6)) (all5.le le6) (by omega) v1 v2 ⟨0, 0, 0, 0, true⟩
  simp only [List.length_append, List.length_cons, List.length_nil] at l6 f6
  have k6 : ∀ d, d < H5.length → d ≠ sa.b → H6[d]? = H5[d]? := fun d hd hne => by rw [f6 d (by omega) (.inl hne), le6.get d hd]
  have b6 : H6[bs]? = some ⟨[.sl sa, .sl sg], .rw, 2⟩ := by rw [k6 bs (by omega) (Ne.symm n2), f5 bs (Ne.symm n1)]; exact S3.blk
  have p7 : putR H6 bs (0 + 0) [.sl sa'] = some (H6.set bs ⟨[.sl sa', .sl sg], .rw, 2⟩) := by rw [put_cell b6 (by simp)]; rfl
  generalize hH7 : H6.set bs ⟨[.sl sa', .sl sg], .rw, 2⟩ = H7 at *
  have l7 : H7.length = H6.length := by rw [← hH7]; simp
  have f7 : ∀ d, d ≠ bs → H7[d]? = H6[d]? := fun d hd => by rw [← hH7]; exact List.getElem?_set_ne (Ne.symm hd)
  have b7 : H7[bs]? = some ⟨[.sl sa', .sl sg], .rw, 2⟩ := by rw [← hH7]; exact set_get b6
  have g7 : H7[sg.b]? = some ⟨bcs gn2, .rw, 1⟩ := by rw [f7 _ n1, k6 _ (by omega) (Ne.symm n3)]; exact g5
  have hgne : bcs gn2 ≠ [] := fun e => by
    have := congrArg List.length e
    simp [bcs, hgn2l] at this
    subst this; simp at hig
  have gone7 : CO 1 H0.length H7 sg (bcs gn2) := ⟨S3.gone.o, by rw [hgn]; simp [bcs, hgn2l], S3.gone.c, .inr ⟨hgne, hsgb, g7⟩⟩
  -- the row of what is gone
  have le8 := Go.Abs.Le.app H7 [⟨[.bool false], .rw, 1⟩]
  obtain ⟨sg', H8, e8, O8, n8, l8, f8⟩ := (gone7.le le8).push (by_ := 1) (new := [.bool false]) (by have := le05.len; simp; omega) (by omega) (by omega) rfl (by rw [hgn]; unfold most; omega)
  simp only [List.length_append, List.length_cons, List.length_nil] at l8 f8
  have k8 : ∀ d, d < H7.length → d ≠ sg.b → H8[d]? = H7[d]? := fun d hd hne => by rw [f8 d (by omega) (.inl hne), le8.get d hd]
  have b8 : H8[bs]? = some ⟨[.sl sa', .sl sg], .rw, 2⟩ := by rw [k8 bs (by omega) (Ne.symm n1)]; exact b7
  have p9 : putR H8 bs (0 + 1) [.sl sg'] = some (H8.set bs ⟨[.sl sa', .sl sg'], .rw, 2⟩) := by rw [put_cell b8 (by simp)]; rfl
  generalize hH9 : H8.set bs ⟨[.sl sa', .sl sg'], .rw, 2⟩ = H9 at *
  have l9 : H9.length = H8.length := by rw [← hH9]; simp
  have f9 : ∀ d, d ≠ bs → H9[d]? = H8[d]? := fun d hd => by rw [← hH9]; exact List.getElem?_set_ne (Ne.symm hd)
  have b9 : H9[bs]? = some ⟨[.sl sa', .sl sg'], .rw, 2⟩ := by rw [← hH9]; exact set_get b8
  have stay : ∀ d, d < H3.length → d ≠ bs → d ≠ sa.b → d ≠ sg.b → H9[d]? = H3[d]? := fun d hd h1 h2 h3 => by
    rw [f9 d h1, k8 d (by omega) h3, f7 d h1, k6 d (by omega) h2, f5 d h3]
  have isStay : ∀ {s : Sl} {l : List Int}, IS H3 s l → IS H9 s l := fun h => h.keepB fun hl => stay _ (h.lt hl) (is_ne h hl S3.blk (two_noint _ _)) (is_ne h hl hsab.1 (triC_noint _)) (is_ne h hl hgb (bcs_noint _))
  have hprod : R (.fn F.sl05Product) [ssc s21, isc 1000000000] H9 = some ⟨1, [isc (min (prd ((joinL al[i] al[j]).map dm)) 1000000001)], H9⟩ :=
    c_sl05Product_g (isStay (((o2.le l2).le l3))) (by simp; omega) fun d hd => by
      obtain ⟨x, hx', rfl⟩ := List.mem_map.1 hd
      have := (LabsOk.join hmi.2.2 hmj.2.2) x hx'
      omega
  refine ⟨sa', sg', (v1, v2, ⟨0, 0, 0, 0, true⟩), H9, ?_, ⟨?_, b9, hS.lo, ?_, ?_, ?_, ?_, ?_⟩, by omega, fun d hd h1 h2 h3 => by rw [stay d (by omega) h1 h2 h3, l13.get d hd], fun hne => ?_⟩
  · have hs0 : ∀ a b : Sl, slAt [Sc.sl a, Sc.sl b] (0 + 0) = some a := fun a b => rfl
    have hs1 : ∀ a b : Sl, slAt [Sc.sl a, Sc.sl b] (0 + 1) = some b := fun a b => rfl
    have r4 : rdB (H3.set sg.b ⟨bcs (gn.set i true), .rw, 1⟩) bs = some [.sl sa, .sl sg] := by
      unfold rdB; rw [List.getElem?_set_ne n1, S3.blk]; rfl
    have r5 : rdB ((H5 ++ [resB]).set (H5.length + 0) deadB) bs = some [.sl sa, .sl sg] := by
      unfold rdB
      rw [List.getElem?_set_ne (by omega), List.getElem?_append_left (by omega), f5 bs (Ne.symm n1), S3.blk]; rfl
    have hnb : newAt (H5 ++ [resB]) (H5.length + 0) 3 [.sl v1, .sl v2, .sl ⟨0, 0, 0, 0, true⟩] = some (H5.length, H5 ++ [⟨[.sl v1, .sl v2, .sl ⟨0, 0, 0, 0, true⟩], .rw, 3⟩]) := by
      rw [Nat.add_zero, newAt_ok (by simp) (by omega)]
      simp
    have r7 : rdB H7 bs = some [.sl sa', .sl sg] := by unfold rdB; rw [b7]; rfl
    have hnb2 : newB H7 1 [.bool false] = some (H7.length, H7 ++ [⟨[.bool false], .rw, 1⟩]) := rfl
    have hif : (if min (prd ((joinL al[i] al[j]).map dm)) 1000000001 < (1000000000 : Int) then min (prd ((joinL al[i] al[j]).map dm)) 1000000001 else 1000000000) = costL dm (joinL al[i] al[j]) := by
      unfold costL; split <;> omega
    rw [R_eq, e_sl17Step, hS.rd]
    simp only [Option.bind_some, hs0]
    rw [hS.all.ld hix]
    rw [hS.all.ld hjx, e1]
    simp only [Option.bind_some]
    rw [t_ssb, e2]
    simp only [Option.bind_some, one_sl]
    rw [e3]
    simp only [Option.bind_some, o_sss]
    rw [S3.rd]
    simp only [Option.bind_some, hs1]
    rw [ixA_nat (by omega)]
    simp only [Option.bind_some]
    rw [p1]
    simp only [Option.bind_some]
    rw [r4]
    simp only [Option.bind_some, hs1]
    rw [ixA_nat (by omega)]
    simp only [Option.bind_some]
    rw [p2]
    simp only [Option.bind_some]
    rw [reserve1, r5]
    simp only [Option.bind_some, hs0]
    rw [hnb]
    simp only [Option.bind_some]
    rw [rng_new (cs := [.sl v1, .sl v2, .sl ⟨0, 0, 0, 0, true⟩]) (z := 3) (m := 1 * 3) (by simp) rfl (by omega)]
    simp only [Option.bind_some]
    rw [e6]
    simp only [Option.bind_some]
    rw [p7]
    simp only [Option.bind_some]
    rw [r7]
    simp only [Option.bind_some, hs1]
    rw [hnb2]
    simp only [Option.bind_some]
    rw [rng_new (cs := [.bool false]) (z := 1) (m := 1 * 1) (by simp) rfl (by omega)]
    simp only [Option.bind_some]
    rw [e8]
    simp only [Option.bind_some]
    rw [p9]
    simp only [Option.bind_some]
    rw [hprod]
    simp only [Option.bind_some, one_int]
    rw [hif]
  · exact ⟨by have := le05.len; omega, fun d hd => by rw [stay d (by have := S3.le.len; omega) (by have := hS.lo; omega) (by have := hsab.2; omega) (by omega)]; exact S3.le.get d hd⟩
  · refine O6.keep fun hne => ?_
    rcases O6.blk with ⟨e, _⟩ | ⟨_, _, hb⟩
    · exact absurd e hne
    · have q1 : sa'.b ≠ bs := fun e => by rw [e, b6] at hb; simp at hb
      have q2 : sa'.b ≠ sg.b := fun e => by
        rw [e, k6 _ (by omega) (Ne.symm n3), g5] at hb
        simp at hb
      have q3 : sa'.b < H6.length := (List.getElem?_eq_some_iff.1 hb).1
      rw [f9 _ q1, k8 _ (by omega) q2, f7 _ q1]
  · have hbc : bcs (gn2 ++ [false]) = bcs gn2 ++ [.bool false] := by simp [bcs]
    rw [hbc]
    refine O8.keep fun hne => ?_
    rcases O8.blk with ⟨e, _⟩ | ⟨_, _, hb⟩
    · exact absurd e hne
    · exact f9 _ fun e => by rw [e, b8] at hb; simp at hb
  · simp [hS.len]
  · simp [hgn2l, hS.glen]
  · intro m x l hx' hl'
    rcases Nat.lt_or_ge m xs.length with hm | hm
    · rw [List.getElem?_append_left hm] at hx'
      rw [List.getElem?_append_left (by rw [hS.len]; exact hm)] at hl'
      obtain ⟨c1, c2⟩ := S3.labs m x l hx' hl'
      exact ⟨isStay c1, isStay c2⟩
    · have hm1 : m < xs.length + 1 := by have := (List.getElem?_eq_some_iff.1 hx').1; simpa using this
      obtain rfl : m = xs.length := by omega
      rw [List.getElem?_append_right (Nat.le_refl _), Nat.sub_self] at hx'
      rw [List.getElem?_append_right (by rw [hS.len]; exact Nat.le_refl _), hS.len, Nat.sub_self] at hl'
      simp at hx' hl'
      subst hx' hl'
      exact ⟨isStay (F3.is (by simp)), isStay (F3.is (by simp))⟩
  · have hl12 := (l1.trans l2).len
    have c1 := (F3.own (s := v1) (l := (joinL al[i] al[j]).filter fun x => (op ++ keepL i j al gn 0).any fun y => x == y) (by simp)).lo
    have c2 := (F3.own (s := v2) (l := ((joinL al[i] al[j]).filter fun x => (op ++ keepL i j al gn 0).any fun y => x == y).map dm) (by simp)).lo
    refine ⟨?_, ?_⟩
    · rcases c1 with h | h
      · exact absurd h hne
      · show H.length ≤ v1.b; omega
    · rcases c2 with h | h
      · exact absurd (List.map_eq_nil_iff.1 h) hne
      · show H.length ≤ v2.b; omega
end Go.Abs
/- Pure: the reference's shapes, told as numbers that are not gone. -/
namespace Go.Abs
set_option linter.all false

def wof : List (List Int) → List Bool → Nat → List (Int × List Int)
  | l :: al, g :: gn, i => if g then wof al gn (i + 1) else ((i : Int), l) :: wof al gn (i + 1)
  | _, _, _ => []
theorem wof_app : ∀ {al : List (List Int)} {gn : List Bool} (r : List Int) (k : Nat), al.length = gn.length → wof (al ++ [r]) (gn ++ [false]) k = wof al gn k ++ [(((k + al.length : Nat) : Int), r)]
  | [], [], r, k, _ => by simp [wof]
  | l :: al, g :: gn, r, k, h => by
    simp only [List.cons_append, wof, List.length_cons]
    rw [wof_app r (k + 1) (by simpa using h)]
    have : k + 1 + al.length = k + (al.length + 1) := by omega
    rw [this]
    split <;> simp
  | [], _ :: _, _, _, h => by simp at h
  | _ :: _, [], _, _, h => by simp at h
theorem wof_lab : ∀ {al : List (List Int)} {gn : List Bool} (k i : Nat) (hk : k ≤ i) (h1 : i - k < al.length) (h2 : i - k < gn.length), gn[i - k] = false → labW (wof al gn k) (i : Int) = al[i - k]
  | [], gn, k, i, _, h1, _, _ => by simp at h1
  | l :: al, [], k, i, _, _, h2, _ => by simp at h2
  | l :: al, g :: gn, k, i, hk, h1, h2, hg => by
    by_cases e : k = i
    · subst e
      simp only [Nat.sub_self, List.getElem_cons_zero] at hg ⊢
      simp [wof, hg, labW]
    · have hs : i - k = (i - (k + 1)) + 1 := by omega
      have hg' : gn[i - (k + 1)]'(by simp at h2; omega) = false := by
        have : (g :: gn)[i - k] = gn[i - (k + 1)]'(by simp at h2; omega) := by
          rw [List.getElem_cons, dif_neg (by omega)]
          congr 1
        rw [← this]; exact hg
      have ih := wof_lab (al := al) (gn := gn) (k + 1) i (by omega) (by simp at h1; omega) (by simp at h2; omega) hg'
      have hr : (l :: al)[i - k] = al[i - (k + 1)]'(by simp at h1; omega) := by
        rw [List.getElem_cons, dif_neg (by omega)]
        congr 1
      rw [hr, ← ih]
      have hw : wof (l :: al) (g :: gn) k = if g then wof al gn (k + 1) else ((k : Int), l) :: wof al gn (k + 1) := rfl
      rw [hw]
      have hne : ((k : Int) == (i : Int)) = false := by simp; omega
      split
      · rfl
      · unfold labW
        simp only [List.find?_cons, hne]
theorem wof_drop : ∀ {al : List (List Int)} {gn : List Bool} (k i j : Nat), dropW (i : Int) (j : Int) (wof al gn k) = wof al (((gn.zipIdx k).map fun x => x.1 || x.2 == i || x.2 == j)) k
  | [], gn, k, i, j => by cases gn <;> simp [wof, dropW]
  | l :: al, [], k, i, j => by simp [wof, dropW]
  | l :: al, g :: gn, k, i, j => by
    have ih := wof_drop (al := al) (gn := gn) (k + 1) i j
    simp only [wof, List.zipIdx_cons, List.map_cons]
    have h1 : ((k : Int) != (i : Int)) = (k != i) := bne_nat k i
    have h2 : ((k : Int) != (j : Int)) = (k != j) := bne_nat k j
    unfold dropW at ih ⊢
    cases g with
    | true => simp only [if_true, Bool.true_or]; exact ih
    | false =>
      simp only [Bool.false_eq_true, if_false, Bool.false_or, List.filter_cons, h1, h2]
      by_cases e1 : k = i
      · subst e1
        simp only [bne_self_eq_false, Bool.false_and, Bool.false_eq_true, if_false, beq_self_eq_true, Bool.true_or, if_true]
        exact ih
      · by_cases e2 : k = j
        · subst e2
          simp only [bne_self_eq_false, Bool.and_false, Bool.false_eq_true, if_false, beq_self_eq_true, Bool.or_true, if_true]
          exact ih
        · have a1 : (k != i) = true := bne_iff_ne.2 e1
          have a2 : (k != j) = true := bne_iff_ne.2 e2
          have a3 : (k == i) = false := by simpa using e1
          have a4 : (k == j) = false := by simpa using e2
          simp only [a1, a2, a3, a4, Bool.and_self, Bool.or_self, if_true, Bool.false_eq_true, if_false]
          rw [ih]
theorem gone_set {gn : List Bool} {i j : Nat} (hi : i < gn.length) (hj : j < gn.length) : ((gn.zipIdx 0).map fun x => x.1 || x.2 == i || x.2 == j) = (gn.set i true).set j true := by
  refine List.ext_getElem (by simp) fun m h1 h2 => ?_
  simp only [List.getElem_map, List.getElem_zipIdx, List.getElem_set]
  by_cases e1 : j = m
  · subst e1; simp
  · by_cases e2 : i = m
    · subst e2; simp [e1]
    · have a1 : (m == i) = false := by simp; omega
      have a2 : (m == j) = false := by simp; omega
      simp [e1, e2, a1, a2]
theorem keepL_any (x : Int) (i j : Nat) : ∀ (al : List (List Int)) (gn : List Bool) (k : Nat), (keepL (i : Int) (j : Int) al gn k).any (fun y => x == y) = (dropW (i : Int) (j : Int) (wof al gn k)).any fun t => t.2.any fun y => x == y
  | [], gn, k => by cases gn <;> simp [keepL, wof, dropW]
  | l :: al, [], k => by simp [keepL, wof, dropW]
  | l :: al, g :: gn, k => by
    have ih := keepL_any x i j al gn (k + 1)
    simp only [keepL, wof, List.any_append, ih]
    cases g with
    | true => simp
    | false =>
      unfold dropW
      simp only [Bool.not_false, Bool.true_and, Bool.false_eq_true, if_false, List.filter_cons]
      cases hc : ((k : Int) != (i : Int) && (k : Int) != (j : Int)) <;> simp
theorem wof_step {al : List (List Int)} {gn : List Bool} {op : List Int} {i j : Nat} {p : Sp} (hl : al.length = gn.length) (hi : i < al.length) (hj : j < al.length) (hgi : gn[i]'(by omega) = false) (hgj : gn[j]'(by omega) = false) (hpa : p.a = (i : Int)) (hpb : p.b = (j : Int)) :
    stepW op (wof al gn 0) (al.length : Int) p = wof (al ++ [(joinL al[i] al[j]).filter fun x => (op ++ keepL i j al gn 0).any fun y => x == y]) (((gn.set i true).set j true) ++ [false]) 0 ∧
      joinL (labW (wof al gn 0) p.a) (labW (wof al gn 0) p.b) = joinL al[i] al[j] ∧ resW op (wof al gn 0) p.a p.b = (joinL al[i] al[j]).filter fun x => (op ++ keepL i j al gn 0).any fun y => x == y := by
  have la := wof_lab (al := al) (gn := gn) 0 i (by omega) (by simpa using hi) (by simp; omega) (by simpa using hgi)
  have lb := wof_lab (al := al) (gn := gn) 0 j (by omega) (by simpa using hj) (by simp; omega) (by simpa using hgj)
  simp only [Nat.sub_zero] at la lb
  have hres : resW op (wof al gn 0) p.a p.b = (joinL al[i] al[j]).filter fun x => (op ++ keepL i j al gn 0).any fun y => x == y := by
    unfold resW
    rw [hpa, hpb, la, lb]
    congr 1
    funext x
    unfold keptW
    rw [List.any_append, keepL_any]
  refine ⟨?_, by rw [hpa, hpb, la, lb], hres⟩
  unfold stepW
  rw [hres, hpa, hpb, wof_drop, gone_set (by omega) (by omega), wof_app _ 0 (by simp; omega)]
  simp
end Go.Abs
/- Plans: the steps (spec). -/
namespace Go.Abs
set_option linter.all false
set_option maxRecDepth 10000

theorem LS.keep {H0 H H' : AH} {bs : Nat} {sa sg : Sl} {xs : List Tri} {al : List (List Int)} {gn : List Bool} {dm : Int → Int} (h : LS H0 H bs sa sg xs al gn dm) (hl : Go.Abs.Le H0 H') (hb : H'[bs]? = H[bs]?) (ha : xs ≠ [] → H'[sa.b]? = H[sa.b]?) (hg : gn ≠ [] → H'[sg.b]? = H[sg.b]?)
    (hr : ∀ (i : Nat) x l, xs[i]? = some x → al[i]? = some l → l ≠ [] → H'[x.1.b]? = H[x.1.b]? ∧ H'[x.2.1.b]? = H[x.2.1.b]?) : LS H0 H' bs sa sg xs al gn dm :=
  ⟨hl, by rw [hb]; exact h.blk, h.lo, h.all.keep ha, h.gone.keep fun hne => hg fun e => hne (by rw [e]; rfl), h.len, h.glen, fun i x l hx hl' => by
    obtain ⟨c1, c2⟩ := h.labs i x l hx hl'
    exact ⟨c1.keepB fun hne => (hr i x l hx hl' hne).1, c2.keepB fun hne => (hr i x l hx hl' fun e => hne (by rw [e]; rfl)).2⟩⟩
theorem joinL_nodup {a b : List Int} (ha : a.Nodup) (hb : b.Nodup) : (joinL a b).Nodup := by
  have key : ∀ (b : List Int) (k : Nat), colF (fun _ x => if (a.any fun y => x == y) then none else some x) b k = b.filter fun x => !(a.any fun y => x == y) := by
    intro b
    induction b with
    | nil => intro k; rfl
    | cons x b ih =>
      intro k
      simp only [colF, List.filter_cons, ih]
      cases a.any fun y => x == y <;> simp
  unfold joinL
  rw [key]
  refine List.nodup_append.2 ⟨ha, hb.filter _, fun x hx y hy e => ?_⟩
  subst e
  have := (List.mem_filter.1 hy).2
  simp at this
  exact this x hx rfl
theorem wof_mem : ∀ {al : List (List Int)} {gn : List Bool} (k : Nat) (x : Int), al.length = gn.length → x ∈ (wof al gn k).map (·.1) → ∃ i : Nat, x = (i : Int) ∧ k ≤ i ∧ ∃ h : i - k < gn.length, gn[i - k] = false
  | [], [], k, x, _, h => by simp [wof] at h
  | l :: al, g :: gn, k, x, hl, h => by
    have hw : wof (l :: al) (g :: gn) k = if g then wof al gn (k + 1) else ((k : Int), l) :: wof al gn (k + 1) := rfl
    rw [hw] at h
    have next : x ∈ (wof al gn (k + 1)).map (·.1) → ∃ i : Nat, x = (i : Int) ∧ k ≤ i ∧ ∃ h : i - k < (g :: gn).length, (g :: gn)[i - k] = false := fun h => by
      obtain ⟨i, e, h1, h2, h3⟩ := wof_mem (k + 1) x (by simpa using hl) h
      refine ⟨i, e, by omega, by simp; omega, ?_⟩
      rw [List.getElem_cons, dif_neg (by omega)]
      rw [← h3]
      congr 1
    by_cases hg : g = true
    · rw [if_pos hg] at h; exact next h
    · rw [if_neg hg, List.map_cons] at h
      rcases List.mem_cons.1 h with rfl | h
      · exact ⟨k, rfl, Nat.le_refl _, by simp, by simpa using hg⟩
      · exact next h
  | [], _ :: _, _, _, h, _ => by simp at h
  | _ :: _, [], _, _, h, _ => by simp at h
end Go.Abs
/- Plans: how many labels there can be. -/
namespace Go.Abs
set_option linter.all false
theorem nodup_len : ∀ (N : Nat) (l : List Int), l.Nodup → (∀ x ∈ l, 0 ≤ x ∧ x < (N : Int)) → l.length ≤ N
  | 0, l, _, h => by
    cases l with
    | nil => simp
    | cons x l => have := h x List.mem_cons_self; omega
  | N + 1, l, hd, h => by
    have ih := nodup_len N (l.erase (N : Int)) (hd.erase _) fun x hx => by
      have hx2 := (List.Nodup.mem_erase_iff hd).1 hx
      have := h x hx2.2
      have := hx2.1
      omega
    by_cases hm : (N : Int) ∈ l
    · rw [List.length_erase_of_mem hm] at ih; omega
    · rw [List.erase_of_not_mem hm] at ih; omega
theorem labs_len {dm : Int → Int} {l : List Int} (hd : l.Nodup) (h : LabsOk dm l) : l.length ≤ 100 := nodup_len 100 l hd fun x hx => by have := h x hx; omega
end Go.Abs
/- Plans: the steps, one after the other (spec). -/
namespace Go.Abs
set_option linter.all false
set_option maxRecDepth 10000

/-- spec.l17Run: the steps -/
theorem c_sl17Run_0 {H0 : AH} {bs : Nat} {sp su s : Sl} {r : Rg} {ps : List Sp} {op : List Int} {dm : Int → Int} (hp : S2 H0 sp ps) (hpl : ps.length ≤ 100) (hou : IS H0 su op) (hol : op.length ≤ 1000) :
    ∀ (k i : Nat) (H : AH) (sa sg u : Sl) (xs : List Tri) (al : List (List Int)) (gn : List Bool) (acc : List Int), i + k = ps.length → LS H0 H bs sa sg xs al gn dm → xs.length ≤ 200 + i → (∀ l ∈ al, l.Nodup ∧ LabsOk dm l) →
      orderN ((wof al gn 0).map (·.1)) (al.length : Int) (ps.drop i) = true → Own H0.length H u acc → acc.length ≤ i → (∀ (m : Nat) x l, xs[m]? = some x → al[m]? = some l → l ≠ [] → acc ≠ [] → x.1.b ≠ u.b ∧ x.2.1.b ≠ u.b) →
      ∃ sa' sg' u' xs' al' gn' H', R (.loop F.sl17Run 0) [.sc (.hp bs 0), ssc u, ssc sp, isc (ps.length : Int), isc (i : Int), npv r s su] H = some ⟨2, [ssc u'], H'⟩ ∧ LS H0 H' bs sa' sg' xs' al' gn' dm ∧ Own H0.length H' u' (acc ++ costsW op dm (wof al gn 0) al.length (ps.drop i)) ∧
        al'.map (costL dm) = al.map (costL dm) ++ sizesW op dm (wof al gn 0) al.length (ps.drop i) ∧ (∀ l ∈ al', l.Nodup ∧ LabsOk dm l) ∧ xs'.length ≤ 200 + ps.length
  | 0, i, H, sa, sg, u, xs, al, gn, acc, hi, hS, hx, hal, hord, hu, hac, hdis => by
    obtain rfl : i = ps.length := by omega
    refine ⟨sa, sg, u, xs, al, gn, H, by rw [R_eq, e_sl17Run_0, lt_self]; rfl, hS, ?_, ?_, hal, hx⟩
    · rw [List.drop_eq_nil_of_le (Nat.le_refl _)]; simpa [costsW] using hu
    · rw [List.drop_eq_nil_of_le (Nat.le_refl _)]; simp [sizesW]
  | k + 1, i, H, sa, sg, u, xs, al, gn, acc, hi, hS, hx, hal, hord, hu, hac, hdis => by
    have hlt : i < ps.length := by omega
    have hlg : al.length = gn.length := by rw [hS.len, hS.glen]
    rw [List.drop_eq_getElem_cons hlt] at hord ⊢
    unfold orderN at hord
    split at hord
    · rename_i hc
      obtain ⟨pa, ea, _, ha1, ha2⟩ := wof_mem 0 _ hlg hc.1
      obtain ⟨pb, eb, _, hb1, hb2⟩ := wof_mem 0 _ hlg hc.2.1
      simp only [Nat.sub_zero] at ha1 ha2 hb1 hb2
      have hal' : ∀ l ∈ al, l.length ≤ 1000 ∧ l.Nodup ∧ LabsOk dm l := fun l hl => ⟨by have := labs_len (hal l hl).1 (hal l hl).2; omega, hal l hl⟩
      obtain ⟨sa', sg', x', H1, e1, S1, l1, f1, g1⟩ := c_sl17Step hS (by omega) hal' (hou.le hS.le) hou hol (i := pa) (j := pb) (by omega) (by omega)
      obtain ⟨w1', w2, w3⟩ := wof_step (op := op) (p := ps[i]) hlg (by omega) (by omega) ha2 hb2 ea eb
      generalize hgn : (gn.set pa true).set pb true ++ [false] = gn' at *
      generalize hres : (joinL al[pa] al[pb]).filter (fun x => (op ++ keepL pa pb al gn 0).any fun y => x == y) = res at *
      have hbu : acc ≠ [] → u.b ≠ bs ∧ u.b ≠ sa.b ∧ u.b ≠ sg.b := fun hne => by
        have hxne : xs ≠ [] := fun e => by
          have h := hS.glen
          rw [e, List.length_nil] at h
          omega
        refine ⟨is_ne hu.is hne hS.blk (two_noint _ _), ?_, is_ne hu.is hne (hS.gone.bool ha1).1 (bcs_noint _)⟩
        rcases hS.all.blk with ⟨e, _⟩ | ⟨_, _, hb⟩
        · exact absurd e hxne
        · exact is_ne hu.is hne hb (triC_noint _)
      have hu1 : Own H0.length H1 u acc := hu.mono fun hne => f1 _ (hu.lt hne) (hbu hne).1 (hbu hne).2.1 (hbu hne).2.2
      obtain ⟨u', H2, e2, o2, l2, f2, g2⟩ := push_own S1.le.len hu1 (by omega) (costL dm (joinL al[pa] al[pb]))
      have dis : ∀ d, (acc ≠ [] → d ≠ u.b) → (d ≠ u.b ∨ acc = []) := fun d h => by
        by_cases e : acc = []
        · exact .inr e
        · exact .inl (h e)
      have S2 : LS H0 H2 bs sa' sg' (xs ++ [x']) (al ++ [res]) gn' dm := S1.keep
        ⟨Nat.le_trans S1.le.len l2, fun d hd => by
          rw [f2 d (by have := S1.le.len; omega) (dis d fun hne => by rcases hu1.lo with h | h
                                                                      · exact absurd h hne
                                                                      · omega)]
          exact S1.le.get d hd⟩
        (f2 _ (List.getElem?_eq_some_iff.1 S1.blk).1 (dis _ fun hne => (is_ne hu1.is hne S1.blk (two_noint _ _)).symm))
        (fun hne => by
          rcases S1.all.blk with ⟨e, _⟩ | ⟨_, _, hb⟩
          · exact absurd e hne
          · exact f2 _ (List.getElem?_eq_some_iff.1 hb).1 (dis _ fun hn2 => (is_ne hu1.is hn2 hb (triC_noint _)).symm))
        (fun hne => by
          have hb := (S1.gone.bool (i := 0) (List.length_pos_iff.2 hne)).1
          exact f2 _ (List.getElem?_eq_some_iff.1 hb).1 (dis _ fun hn2 => (is_ne hu1.is hn2 hb (bcs_noint _)).symm))
        (fun m x l hx1 hl1 hne => by
          obtain ⟨c1, c2⟩ := S1.labs m x l hx1 hl1
          have hne2 : l.map dm ≠ [] := fun e => hne (List.map_eq_nil_iff.1 e)
          have hd : acc ≠ [] → x.1.b ≠ u.b ∧ x.2.1.b ≠ u.b := fun hn2 => by
            rcases Nat.lt_or_ge m xs.length with hm | hm
            · rw [List.getElem?_append_left hm] at hx1
              rw [List.getElem?_append_left (by rw [hS.len]; exact hm)] at hl1
              exact hdis m x l hx1 hl1 hne hn2
            · have hm1 : m < xs.length + 1 := by have := (List.getElem?_eq_some_iff.1 hx1).1; simpa using this
              obtain rfl : m = xs.length := by omega
              rw [List.getElem?_append_right (Nat.le_refl _), Nat.sub_self] at hx1
              rw [List.getElem?_append_right (by rw [hS.len]; exact Nat.le_refl _), hS.len, Nat.sub_self] at hl1
              simp at hx1 hl1
              subst hx1 hl1
              have := g1 hne
              have := hu.lt hn2
              omega
          exact ⟨f2 _ (c1.lt hne) (dis _ fun h => (hd h).1), f2 _ (c2.lt hne2) (dis _ fun h => (hd h).2)⟩)
      have hgood : ∀ l ∈ al ++ [res], l.Nodup ∧ LabsOk dm l := fun l hl => by
        rcases List.mem_append.1 hl with h | h
        · exact hal l h
        · simp at h
          subst h
          rw [← hres]
          have q1 := hal _ (List.getElem_mem (show pa < al.length by omega))
          have q2 := hal _ (List.getElem_mem (show pb < al.length by omega))
          exact ⟨(joinL_nodup q1.1 q2.1).filter _, fun x hx' => (LabsOk.join q1.2 q2.2) x (List.mem_filter.1 hx').1⟩
      have hnums : (wof (al ++ [res]) gn' 0).map (·.1) = ((wof al gn 0).map (·.1)).filter (fun x => x != ps[i].a && x != ps[i].b) ++ [(al.length : Int)] := by
        rw [← w1']
        unfold stepW dropW
        rw [List.map_append, List.filter_map]
        rfl
      have hlen1 : (((al ++ [res]).length : Nat) : Int) = (al.length : Int) + 1 := by simp
      obtain ⟨sa2, sg2, u2, xs2, al2, gn2, H3, e3, S3, o3, z3, good3, x3⟩ := c_sl17Run_0 (s := s) (r := r) hp hpl hou hol k (i + 1) H2 sa' sg' u' (xs ++ [x']) (al ++ [res]) gn' (acc ++ [costL dm (joinL al[pa] al[pb])]) (by omega) S2 (by simp; omega) hgood
        (by rw [hnums, hlen1]; exact hord) o2 (by simp; omega)
        (fun m x l hx1 hl1 hne _ => by
          obtain ⟨c1, c2⟩ := S1.labs m x l hx1 hl1
          have hne2 : l.map dm ≠ [] := fun e => hne (List.map_eq_nil_iff.1 e)
          have := c1.lt hne
          have := c2.lt hne2
          omega)
      refine ⟨sa2, sg2, u2, xs2, al2, gn2, H3, ?_, S3, ?_, ?_, good3, x3⟩
      · rw [R_eq, e_sl17Run_0, lt_true hlt, w1 hlt (by omega), cond_true, (hp.le hS.le).ld hlt, ea, eb, e1]
        simp only [Option.bind_some, one_int]
        rw [e2]
        exact e3
      · simp only [costsW]
        rw [w2, w1', ← hlen1]
        rw [List.append_assoc, List.singleton_append] at o3
        exact o3
      · simp only [sizesW]
        rw [w3, w1', ← hlen1, z3]
        simp
    · cases hord
end Go.Abs
/- Plans: the shapes of a network (spec). -/
namespace Go.Abs
set_option linter.all false
set_option maxRecDepth 10000

/-- A tensor more. -/
theorem c_sl17New_s {H0 H : AH} {bs : Nat} {sa sg v1 v2 : Sl} {xs : List Tri} {al : List (List Int)} {gn : List Bool} {dm : Int → Int} {l : List Int} (hS : LS H0 H bs sa sg xs al gn dm) (hx : xs.length ≤ 500) (h1 : IS H v1 l) (h2 : IS H v2 (l.map dm)) {α : Type} (K : AH → Option α) :
    ∃ sa' sg' H', ((rdB ((reserve H 1).set (H.length + 0) deadB) bs).bind fun c7 => (slAt c7 (0 + 0)).bind fun s8 => (newAt (reserve H 1) (H.length + 0) 3 [.sl v1, .sl v2, .sl ⟨0, 0, 0, 0, true⟩]).bind fun h9 => (rng h9.2 h9.1 0 (1 * 3)).bind fun l10 => (appB h9.2 3 72 s8 l10 1).bind fun m11 => (putR m11.2 bs (0 + 0) [.sl m11.1]).bind fun H12 =>
      (rdB H12 bs).bind fun c13 => (slAt c13 (0 + 1)).bind fun s14 => (newB H12 1 [.bool false]).bind fun h15 => (rng h15.2 h15.1 0 (1 * 1)).bind fun l16 => (appB h15.2 1 1 s14 l16 1).bind fun m17 => (putR m17.2 bs (0 + 1) [.sl m17.1]).bind K) = K H' ∧ LS H0 H' bs sa' sg' (xs ++ [(v1, v2, ⟨0, 0, 0, 0, true⟩)]) (al ++ [l]) (gn ++ [false]) dm := by
  have hbs : bs < H.length := (List.getElem?_eq_some_iff.1 hS.blk).1
  have hlo := hS.lo
  have hle := hS.le.len
  have hgl : gn.length = xs.length := hS.glen
  have n1 : gn ≠ [] → sg.b ≠ bs ∧ H0.length ≤ sg.b ∧ H[sg.b]? = some ⟨bcs gn, .rw, 1⟩ := fun hne => by
    rcases hS.gone.blk with ⟨e, _⟩ | ⟨_, a, b⟩
    · exact absurd (List.map_eq_nil_iff.1 e) hne
    · exact ⟨fun e => by rw [e, hS.blk] at b; simp at b, a, b⟩
  have n2 : xs ≠ [] → sa.b ≠ bs ∧ H0.length ≤ sa.b ∧ H[sa.b]? = some ⟨triC xs, .rw, 3⟩ := fun hne => by
    rcases hS.all.blk with ⟨e, _⟩ | ⟨_, a, b⟩
    · exact absurd e hne
    · exact ⟨fun e => by rw [e, hS.blk] at b; simp at b, a, b⟩
  have hne2 : gn ≠ [] ↔ xs ≠ [] := by
    rw [← List.length_pos_iff, ← List.length_pos_iff, hgl]
  have n3 : xs ≠ [] → sa.b ≠ sg.b := fun hne e => by
    have b := (n2 hne).2.2
    rw [e, (n1 (hne2.2 hne)).2.2] at b
    simp at b
  have dis : ∀ (d : Nat) (P : Prop), (¬ P → d ≠ sa.b) → (d ≠ sa.b ∨ P) := fun d P h => by
    by_cases e : P
    · exact .inr e
    · exact .inl (h e)
  have le6 := Go.Abs.Le.app H [⟨[.sl v1, .sl v2, .sl ⟨0, 0, 0, 0, true⟩], .rw, 3⟩]
  obtain ⟨sa', H6, e6, _, O6, l6, f6⟩ := outer_push (rs := []) (Fr.of (hS.le.trans le6)) (hS.all.le le6) (by omega) v1 v2 ⟨0, 0, 0, 0, true⟩
  simp only [List.length_append, List.length_cons, List.length_nil] at l6 f6
  have k6 : ∀ d, d < H.length → (d ≠ sa.b ∨ xs = []) → H6[d]? = H[d]? := fun d hd hne => by rw [f6 d (by omega) hne, le6.get d hd]
  have b6 : H6[bs]? = some ⟨[.sl sa, .sl sg], .rw, 2⟩ := by rw [k6 bs hbs (dis _ _ fun h => Ne.symm (n2 h).1)]; exact hS.blk
  have p7 : putR H6 bs (0 + 0) [.sl sa'] = some (H6.set bs ⟨[.sl sa', .sl sg], .rw, 2⟩) := by rw [put_cell b6 (by simp)]; rfl
  generalize hH7 : H6.set bs ⟨[.sl sa', .sl sg], .rw, 2⟩ = H7 at *
  have l7 : H7.length = H6.length := by rw [← hH7]; simp
  have f7 : ∀ d, d ≠ bs → H7[d]? = H6[d]? := fun d hd => by rw [← hH7]; exact List.getElem?_set_ne (Ne.symm hd)
  have b7 : H7[bs]? = some ⟨[.sl sa', .sl sg], .rw, 2⟩ := by rw [← hH7]; exact set_get b6
  have gone7 : CO 1 H0.length H7 sg (bcs gn) := hS.gone.keep fun hne => by
    have hg : gn ≠ [] := fun e => hne (by rw [e]; rfl)
    obtain ⟨a, b, c⟩ := n1 hg
    rw [f7 _ a, k6 _ (List.getElem?_eq_some_iff.1 c).1 (.inl (Ne.symm (n3 (hne2.1 hg))))]
  have le8 := Go.Abs.Le.app H7 [⟨[.bool false], .rw, 1⟩]
  have hsn : sg.n = gn.length := by have := hS.gone.n; simpa [bcs] using this
  obtain ⟨sg', H8, e8, O8, n8, l8, f8⟩ := (gone7.le le8).push (by_ := 1) (new := [.bool false]) (by simp; omega) (by omega) (by omega) rfl (by rw [hsn]; unfold most; omega)
  simp only [List.length_append, List.length_cons, List.length_nil] at l8 f8
  have k8 : ∀ d, d < H7.length → (d ≠ sg.b ∨ bcs gn = []) → H8[d]? = H7[d]? := fun d hd hne => by rw [f8 d (by omega) hne, le8.get d hd]
  have disg : ∀ d, (gn ≠ [] → d ≠ sg.b) → (d ≠ sg.b ∨ bcs gn = []) := fun d h => by
    by_cases e : gn = []
    · exact .inr (by rw [e]; rfl)
    · exact .inl (h e)
  have b8 : H8[bs]? = some ⟨[.sl sa', .sl sg], .rw, 2⟩ := by rw [k8 bs (by omega) (disg _ fun h => Ne.symm (n1 h).1)]; exact b7
  have p9 : putR H8 bs (0 + 1) [.sl sg'] = some (H8.set bs ⟨[.sl sa', .sl sg'], .rw, 2⟩) := by rw [put_cell b8 (by simp)]; rfl
  generalize hH9 : H8.set bs ⟨[.sl sa', .sl sg'], .rw, 2⟩ = H9 at *
  have l9 : H9.length = H8.length := by rw [← hH9]; simp
  have f9 : ∀ d, d ≠ bs → H9[d]? = H8[d]? := fun d hd => by rw [← hH9]; exact List.getElem?_set_ne (Ne.symm hd)
  have b9 : H9[bs]? = some ⟨[.sl sa', .sl sg'], .rw, 2⟩ := by rw [← hH9]; exact set_get b8
  have stay : ∀ d, d < H.length → d ≠ bs → (xs ≠ [] → d ≠ sa.b) → (gn ≠ [] → d ≠ sg.b) → H9[d]? = H[d]? := fun d hd a b c => by
    rw [f9 d a, k8 d (by omega) (disg d c), f7 d a, k6 d hd (dis d _ b)]
  have isStay : ∀ {s : Sl} {l : List Int}, IS H s l → IS H9 s l := fun h => h.keepB fun hl => stay _ (h.lt hl) (is_ne h hl hS.blk (two_noint _ _)) (fun e => is_ne h hl (n2 e).2.2 (triC_noint _)) (fun e => is_ne h hl (n1 e).2.2 (bcs_noint _))
  refine ⟨sa', sg', H9, ?_, ⟨⟨by omega, fun d hd => ?_⟩, b9, hlo, ?_, ?_, by simp [hS.len], by simp [hS.glen], ?_⟩⟩
  · have hs0 : ∀ a b : Sl, slAt [Sc.sl a, Sc.sl b] (0 + 0) = some a := fun a b => rfl
    have hs1 : ∀ a b : Sl, slAt [Sc.sl a, Sc.sl b] (0 + 1) = some b := fun a b => rfl
    have r5 : rdB ((H ++ [resB]).set (H.length + 0) deadB) bs = some [.sl sa, .sl sg] := by
      unfold rdB
      rw [List.getElem?_set_ne (by omega), List.getElem?_append_left (by omega), hS.blk]; rfl
    have hnb : newAt (H ++ [resB]) (H.length + 0) 3 [.sl v1, .sl v2, .sl ⟨0, 0, 0, 0, true⟩] = some (H.length, H ++ [⟨[.sl v1, .sl v2, .sl ⟨0, 0, 0, 0, true⟩], .rw, 3⟩]) := by
      rw [Nat.add_zero, newAt_ok (by simp) (by omega)]
      simp
    have r7 : rdB H7 bs = some [.sl sa', .sl sg] := by unfold rdB; rw [b7]; rfl
    have hnb2 : newB H7 1 [.bool false] = some (H7.length, H7 ++ [⟨[.bool false], .rw, 1⟩]) := rfl
    rw [reserve1, r5]
    simp only [Option.bind_some, hs0]
    rw [hnb]
    simp only [Option.bind_some]
    rw [rng_new (cs := [.sl v1, .sl v2, .sl ⟨0, 0, 0, 0, true⟩]) (z := 3) (m := 1 * 3) (by simp) rfl (by omega)]
    simp only [Option.bind_some]
    rw [e6]
    simp only [Option.bind_some]
    rw [p7]
    simp only [Option.bind_some]
    rw [r7]
    simp only [Option.bind_some, hs1]
    rw [hnb2]
    simp only [Option.bind_some]
    rw [rng_new (cs := [.bool false]) (z := 1) (m := 1 * 1) (by simp) rfl (by omega)]
    simp only [Option.bind_some]
    rw [e8]
    simp only [Option.bind_some]
    rw [p9]
    simp only [Option.bind_some]
  · rw [stay d (by omega) (by omega) (fun e => by have := (n2 e).2.1; omega) (fun e => by have := (n1 e).2.1; omega)]
    exact hS.le.get d hd
  · refine O6.keep fun hne => ?_
    rcases O6.blk with ⟨e, _⟩ | ⟨_, _, hb⟩
    · exact absurd e hne
    · have q1 : sa'.b ≠ bs := fun e => by rw [e, b6] at hb; simp at hb
      have q3 : sa'.b < H6.length := (List.getElem?_eq_some_iff.1 hb).1
      rw [f9 _ q1, k8 _ (by omega) (disg _ fun hg e => by
        obtain ⟨a, _, c⟩ := n1 hg
        rw [e, k6 _ (List.getElem?_eq_some_iff.1 c).1 (.inl (Ne.symm (n3 (hne2.1 hg)))), c] at hb
        simp at hb), f7 _ q1]
  · have hbc : bcs (gn ++ [false]) = bcs gn ++ [.bool false] := by simp [bcs]
    rw [hbc]
    refine O8.keep fun hne => ?_
    rcases O8.blk with ⟨e, _⟩ | ⟨_, _, hb⟩
    · exact absurd e hne
    · exact f9 _ fun e => by rw [e, b8] at hb; simp at hb
  · intro m x l' hx' hl'
    rcases Nat.lt_or_ge m xs.length with hm | hm
    · rw [List.getElem?_append_left hm] at hx'
      rw [List.getElem?_append_left (by rw [hS.len]; exact hm)] at hl'
      obtain ⟨c1, c2⟩ := hS.labs m x l' hx' hl'
      exact ⟨isStay c1, isStay c2⟩
    · have hm1 : m < xs.length + 1 := by have := (List.getElem?_eq_some_iff.1 hx').1; simpa using this
      obtain rfl : m = xs.length := by omega
      rw [List.getElem?_append_right (Nat.le_refl _), Nat.sub_self] at hx'
      rw [List.getElem?_append_right (by rw [hS.len]; exact Nat.le_refl _), hS.len, Nat.sub_self] at hl'
      simp at hx' hl'
      subst hx' hl'
      exact ⟨isStay h1, isStay h2⟩
end Go.Abs
/- Plans: the shapes of a network, whole (spec). -/
namespace Go.Abs
set_option linter.all false
set_option maxRecDepth 10000

/-- spec.l17New: the tensors -/
theorem c_sl17New_0 {H0 : AH} {bs : Nat} {s : Sl} {ts : List Tn} {dm : Int → Int} (hT : T3 H0 s ts) (hl : ts.length ≤ 12) (hd : ∀ t ∈ ts, t.D = t.L.map dm) :
    ∀ (k i : Nat) (H : AH) (sa sg : Sl) (xs : List Tri), i + k = ts.length → LS H0 H bs sa sg xs ((ts.take i).map (·.L)) (List.replicate i false) dm →
      ∃ sa' sg' xs' H', R (.loop F.sl17New 0) [.sc (.hp bs 0), ssc s, isc (ts.length : Int), isc (i : Int)] H = some ⟨2, [], H'⟩ ∧ LS H0 H' bs sa' sg' xs' (ts.map (·.L)) (List.replicate ts.length false) dm
  | 0, i, H, sa, sg, xs, hi, hS => by
    obtain rfl : i = ts.length := by omega
    rw [List.take_length] at hS
    exact ⟨sa, sg, xs, H, by rw [R_eq, e_sl17New_0, lt_self]; rfl, hS⟩
  | k + 1, i, H, sa, sg, xs, hi, hS => by
    have hlt : i < ts.length := by omega
    have hxl : xs.length = i := by rw [← hS.glen]; simp
    obtain ⟨a, b, c, ht, kt⟩ := (hT.le hS.le).ld hlt
    have hD := ht.D
    rw [hd _ (List.getElem_mem hlt)] at hD
    obtain ⟨sa1, sg1, H1, e1, S1⟩ := c_sl17New_s hS (by omega) ht.L hD (fun H18 => R (.loop F.sl17New 0) [.sc (.hp bs 0), ssc s, isc (ts.length : Int), isc ((i + 1 : Nat) : Int)] H18)
    have S1' : LS H0 H1 bs sa1 sg1 (xs ++ [(a, b, ⟨0, 0, 0, 0, true⟩)]) ((ts.take (i + 1)).map (·.L)) (List.replicate (i + 1) false) dm := by
      rw [take_snocT hlt, List.map_append, List.replicate_succ']
      exact S1
    obtain ⟨sa2, sg2, xs2, H2, e2, S2⟩ := c_sl17New_0 hT hl hd k (i + 1) H1 sa1 sg1 _ (by omega) S1'
    refine ⟨sa2, sg2, xs2, H2, ?_, S2⟩
    rw [R_eq, e_sl17New_0, lt_true hlt, w1 hlt (by omega), cond_true, kt]
    exact e1.trans e2
end Go.Abs
/- Plans: the shapes of a network, the call (spec). -/
namespace Go.Abs
set_option linter.all false
set_option maxRecDepth 10000

/-- spec.l17New -/
theorem c_sl17New {r : Rg} {H : AH} {s u : Sl} {ts : List Tn} {dm : Int → Int} (hT : T3 H s ts) (hl : ts.length ≤ 12) (hd : ∀ t ∈ ts, t.D = t.L.map dm) :
    ∃ bs sa sg xs H', R (.fn F.sl17New) [npv r s u] H = some ⟨1, [.sc (.hp bs 0)], H'⟩ ∧ LS H H' bs sa sg xs (ts.map (·.L)) (List.replicate ts.length false) dm := by
  have l0 := Go.Abs.Le.app H [⟨[.sl ⟨0, 0, 0, 0, true⟩, .sl ⟨0, 0, 0, 0, true⟩], .rw, 2⟩]
  have S0 : LS H (H ++ [⟨[.sl ⟨0, 0, 0, 0, true⟩, .sl ⟨0, 0, 0, 0, true⟩], .rw, 2⟩]) H.length ⟨0, 0, 0, 0, true⟩ ⟨0, 0, 0, 0, true⟩ [] ((ts.take 0).map (·.L)) (List.replicate 0 false) dm :=
    ⟨l0, app_get, Nat.le_refl _, OOut.nil _ _ _, CO.nil _ _ _ _, by simp, by simp, fun i x l hx _ => by simp at hx⟩
  obtain ⟨sa, sg, xs, H', e, S1⟩ := c_sl17New_0 hT hl hd ts.length 0 _ _ _ [] (by omega) S0
  refine ⟨H.length, sa, sg, xs, H', ?_, S1⟩
  have e : R (.loop F.sl17New 0) [.sc (.hp H.length 0), ssc s, isc (ts.length : Int), isc 0] (H ++ [⟨[.sl ⟨0, 0, 0, 0, true⟩, .sl ⟨0, 0, 0, 0, true⟩], .rw, 2⟩]) = _ := e
  have hnb : newB H 2 [.sl ⟨0, 0, 0, 0, true⟩, .sl ⟨0, 0, 0, 0, true⟩] = some (H.length, H ++ [⟨[.sl ⟨0, 0, 0, 0, true⟩, .sl ⟨0, 0, 0, 0, true⟩], .rw, 2⟩]) := rfl
  rw [R_eq, e_sl17New, hnb]
  simp only [Option.bind_some]
  rw [hT.1, e]
  rfl
end Go.Abs
/- Pure: each tensor's dimensions are its labels', in a valid network; the start as numbers. -/
namespace Go.Abs
set_option linter.all false

theorem lk_in : ∀ {L D : List Int} {y d : Int}, lk L D y = some d → (y, d) ∈ L.zip D
  | [], _, y, d, h => by simp [lk] at h
  | a :: L, [], y, d, h => by simp [lk] at h
  | a :: L, e :: D, y, d, h => by
    unfold lk at h
    split at h
    · rename_i hc
      have hc : a = y := by simpa using hc
      cases h
      simp [hc]
    · simp [lk_in h]
theorem lk_mem : ∀ {L D : List Int}, L.Nodup → ∀ y ∈ L.zip D, lk L D y.1 = some y.2
  | [], _, _, y, h => by simp at h
  | a :: L, [], _, y, h => by simp at h
  | a :: L, e :: D, hd, y, h => by
    have hn := List.nodup_cons.1 hd
    unfold lk
    rcases List.mem_cons.1 (by simpa using h) with h | h
    · subst h; simp
    · have hm : y.1 ∈ L := (List.of_mem_zip h).1
      have : (a == y.1) = false := by
        have : a ≠ y.1 := fun e => hn.1 (e ▸ hm)
        simpa using this
      rw [this]
      simpa using lk_mem hn.2 y h
theorem dimF_app2 {r : Rg} (y : Int) : ∀ {pre q : List Tn}, (∀ u ∈ pre, tensorB r u = true) → dimF (pre ++ q) y = if 0 < dimF pre y then dimF pre y else dimF q y
  | [], q, _ => by
    have : dimF [] y = 0 := rfl
    rw [this, if_neg (by omega)]; rfl
  | u :: pre, q, h => by
    have hu := h u List.mem_cons_self
    have ih := dimF_app2 y (pre := pre) (q := q) fun v hv => h v (List.mem_cons_of_mem _ hv)
    rw [List.cons_append, lk_dim y (tensor_dims hu).1, lk_dim y (tensor_dims hu).1]
    cases hk : lk u.L u.D y with
    | none => exact ih
    | some d =>
      have h1 := ((tensor_facts hu).2.2 d (List.of_mem_zip (lk_in hk)).2).1
      simp only [Option.getD_some]
      rw [if_pos (by omega)]
theorem cons_dims {r : Rg} : ∀ {ts pre : List Tn}, (∀ u ∈ pre, tensorB r u = true) → consG r pre ts = true → ∀ t ∈ ts, ∀ y ∈ t.L.zip t.D, dimF (pre ++ ts) y.1 = y.2
  | [], _, _, _, t, ht, _, _ => by simp at ht
  | u :: ts, pre, hp, h, t, ht, y, hy => by
    simp only [consG, Bool.and_eq_true] at h
    rcases List.mem_cons.1 ht with rfl | ht
    · have hk := lk_mem (dist_nodup (tensor_facts h.1.1).2.1) y hy
      have ha := List.all_eq_true.1 h.1.2 y hy
      rw [dimF_app2 y.1 hp, lk_dim y.1 (tensor_dims h.1.1).1, hk]
      split
      · rename_i hpos
        have hpos : dimF pre y.1 > 0 := hpos
        rw [decide_eq_true hpos] at ha
        simpa using ha
      · rfl
    · have := cons_dims (ts := ts) (pre := pre ++ [u]) (fun v hv => by
        rcases List.mem_append.1 hv with hv | hv
        · exact hp v hv
        · simp at hv; subst hv; exact h.1.1) h.2 t ht y hy
      rw [List.append_assoc] at this
      exact this
theorem dims_map {f : Int → Int} : ∀ {L D : List Int}, L.length = D.length → (∀ y ∈ L.zip D, f y.1 = y.2) → D = L.map f
  | [], [], _, _ => rfl
  | a :: L, d :: D, hl, h => by
    have h0 := h (a, d) (by simp)
    have := dims_map (f := f) (L := L) (D := D) (by simpa using hl) fun y hy => h y (by simp [hy])
    simp only [List.map_cons]
    rw [← this, h0]
  | [], _ :: _, hl, _ => by simp at hl
  | _ :: _, [], hl, _ => by simp at hl
theorem net_dims {n : Nw} (hn : netB n = true) : ∀ t ∈ n.ts, t.D = t.L.map (dimF n.ts) := fun t ht => by
  have hm := net_mem hn
  simp only [netB, Bool.and_eq_true] at hn
  exact dims_map (tensor_dims (hm t ht)).1 fun y hy => cons_dims (pre := []) (by simp) hn.1.2 t ht y hy
theorem wof_W0 : ∀ (ts : List Tn) (k : Nat), wof (ts.map (·.L)) (List.replicate ts.length false) k = (ts.zipIdx k).map fun x => ((x.2 : Int), x.1.L)
  | [], k => rfl
  | t :: ts, k => by
    simp only [List.map_cons, List.length_cons, List.replicate_succ, wof, List.zipIdx_cons, Bool.false_eq_true, if_false]
    rw [wof_W0 ts (k + 1)]
theorem W0_nums (ts : List Tn) : (W0 ts).map (·.1) = (List.range ts.length).map fun i : Nat => (i : Int) := by
  unfold W0
  refine List.ext_getElem (by simp) fun i h1 h2 => ?_
  simp
end Go.Abs
/- Plans: the steps of a network, the call (spec). -/
namespace Go.Abs
set_option linter.all false
set_option maxRecDepth 10000

/-- A network's shapes as the reference needs them. -/
structure SN (n : Nw) : Prop where
  l : n.ts.length ≤ 12
  op : n.op.length ≤ 1000
  d : ∀ t ∈ n.ts, t.D = t.L.map (dimF n.ts)
  labs : ∀ t ∈ n.ts, t.L.Nodup ∧ LabsOk (dimF n.ts) t.L
theorem SN.net {n : Nw} (hn : netB n = true) : SN n := by
  obtain ⟨b1, b2, b3⟩ := netB_small hn
  exact ⟨b1, by omega, net_dims hn, fun t ht => ⟨dist_nodup (tensor_facts (net_mem hn t ht)).2.1, tensor_labs hn t ht⟩⟩
theorem shp_mem {a b : List Tn} (h : shp a = shp b) {t : Tn} (ht : t ∈ b) : ∃ u ∈ a, u.L = t.L ∧ u.D = t.D := by
  have : (t.L, t.D) ∈ shp b := List.mem_map.2 ⟨t, ht, rfl⟩
  rw [← h] at this
  obtain ⟨u, hu, e⟩ := List.mem_map.1 this
  simp only [Prod.mk.injEq] at e
  exact ⟨u, hu, e.1, e.2⟩
theorem SN.shp {a b : Nw} (h : SN a) (hs : Go.Abs.shp a.ts = Go.Abs.shp b.ts) (ho : a.op = b.op) : SN b := by
  refine ⟨by rw [← len_shp hs]; exact h.l, by rw [← ho]; exact h.op, fun t ht => ?_, fun t ht => ?_⟩
  · obtain ⟨u, hu, e1, e2⟩ := shp_mem hs ht
    rw [← e1, ← e2, ← dim_shp hs]; exact h.d u hu
  · obtain ⟨u, hu, e1, e2⟩ := shp_mem hs ht
    rw [← e1, ← dim_shp hs]; exact h.labs u hu
/-- spec.l17Run -/
theorem c_sl17Run {H : AH} {s u sp : Sl} {n : Nw} {ps : List Sp} (h : NS H s u n) (hS : SN n) (hp : S2 H sp ps) (hpl : ps.length ≤ 100) (ho : orderN ((List.range n.ts.length).map fun i : Nat => (i : Int)) n.ts.length ps = true) :
    ∃ bs sa sg uc xs al gn H', R (.fn F.sl17Run) [npv n.r s u, ssc sp] H = some ⟨1, [.sc (.hp bs 0), ssc uc], H'⟩ ∧ LS H H' bs sa sg xs al gn (dimF n.ts) ∧ IS H' uc (costsW n.op (dimF n.ts) (W0 n.ts) n.ts.length ps) ∧
      al.map (costL (dimF n.ts)) = (W0 n.ts).map (fun t => costL (dimF n.ts) t.2) ++ sizesW n.op (dimF n.ts) (W0 n.ts) n.ts.length ps ∧ (∀ l ∈ al, l.Nodup ∧ LabsOk (dimF n.ts) l) ∧ xs.length ≤ 300 := by
  obtain ⟨bs, sa, sg, xs, H1, e1, S1⟩ := c_sl17New (r := n.r) (u := u) (dm := dimF n.ts) h.ts hS.l hS.d
  have l2 := Go.Abs.Le.app H1 [⟨[], .rw, 1⟩]
  have hw : wof (n.ts.map (·.L)) (List.replicate n.ts.length false) 0 = W0 n.ts := wof_W0 n.ts 0
  have hx : xs.length ≤ 200 + 0 := by
    have := S1.len
    have := hS.l
    simp only [List.length_map] at *
    omega
  obtain ⟨sa', sg', u', xs', al', gn', H', e2, S2', o2, z2, g2, x2⟩ := c_sl17Run_0 (r := n.r) (s := s) hp hpl h.op hS.op ps.length 0 (H1 ++ [⟨[], .rw, 1⟩]) sa sg ⟨H1.length, 0, 0, 0, true⟩ xs (n.ts.map (·.L)) (List.replicate n.ts.length false) [] (by omega) (S1.ext l2) hx
    (fun l hl => by
      obtain ⟨t, ht, rfl⟩ := List.mem_map.1 hl
      exact hS.labs t ht)
    (by rw [hw, W0_nums, List.length_map, List.drop_zero]; exact ho) ⟨rfl, rfl, rfl, .inl rfl, .inl ⟨rfl, rfl⟩⟩ (by simp) (fun _ _ _ _ _ _ hne => absurd rfl hne)
  rw [hw, List.length_map, List.drop_zero] at o2 z2
  refine ⟨bs, sa', sg', u', xs', al', gn', H', ?_, S2', by simpa using o2.is, ?_, g2, by omega⟩
  · have e2 : R (.loop F.sl17Run 0) [.sc (.hp bs 0), ssc ⟨H1.length, 0, 0, 0, true⟩, ssc sp, isc (ps.length : Int), isc 0, npv n.r s u] (H1 ++ [⟨[], .rw, 1⟩]) = _ := e2
    have hnb : newB H1 1 [] = some (H1.length, H1 ++ [⟨[], .rw, 1⟩]) := rfl
    rw [R_eq, e_sl17Run, e1]
    simp only [Option.bind_some, one_hp]
    rw [hnb]
    simp only [Option.bind_some]
    rw [hp.1, e2]
    rfl
  · rw [z2]
    congr 1
    unfold W0
    refine List.ext_getElem (by simp) fun i h1 h2 => ?_
    simp
end Go.Abs
/- Plans: cost and peak of a network (spec). -/
namespace Go.Abs
set_option linter.all false
set_option maxRecDepth 10000

theorem SN.wok {n : Nw} (h : SN n) : WOk (dimF n.ts) (W0 n.ts) := fun t ht => by
  unfold W0 at ht
  obtain ⟨x, hx, rfl⟩ := List.mem_map.1 ht
  have hm : x.1 ∈ n.ts := by
    obtain ⟨i, hi⟩ := List.getElem?_of_mem hx
    rw [List.getElem?_zipIdx] at hi
    cases hh : n.ts[i]? with
    | none => rw [hh] at hi; simp at hi
    | some y => rw [hh] at hi; simp at hi; rw [← hi]; exact List.mem_of_getElem? hh
  exact (h.labs x.1 hm).2
theorem t_hs {α : Type} (b o : Nat) (s : Sl) (K : Nat × Nat → Sl → Option α) : ((lenP [.sc (.hp b o), ssc s] 2).bind fun _ => (nthP [.sc (.hp b o), ssc s] 0).bind fun p2 => p2.sc?.bind fun c3 => (ptrAt [c3] 0).bind fun p4 => (nthP [.sc (.hp b o), ssc s] 1).bind fun p5 => p5.sc?.bind fun c6 => (slAt [c6] 0).bind fun s7 => K p4 s7) = K (b, o) s := rfl
theorem n_int (m : Int) {α : Type} (k : Int → Option α) : ((nthP [isc m] 0).bind fun p20 => p20.sc?.bind fun c21 => (intAt .i64 [c21] 0).bind k) = k m := rfl
/-- spec.l17Cost -/
theorem c_sl17Cost {H : AH} {s u sp : Sl} {n : Nw} {ps : List Sp} (h : NS H s u n) (hS : SN n) (hp : S2 H sp ps) (hpl : ps.length ≤ 100) (ho : orderN ((List.range n.ts.length).map fun i : Nat => (i : Int)) n.ts.length ps = true) :
    ∃ H', R (.fn F.sl17Cost) [npv n.r s u, ssc sp] H = some ⟨1, [isc (costN n ps)], H'⟩ ∧ Go.Abs.Le H H' := by
  obtain ⟨bs, sa, sg, uc, xs, al, gn, H1, e1, S1, hc, hz, hg, hx⟩ := c_sl17Run h hS hp hpl ho
  have hrg := costs_range n.op (dimF n.ts) ps (W0 n.ts) n.ts.length hS.wok
  have hcl := costs_len n.op (dimF n.ts) ps (W0 n.ts) n.ts.length
  generalize hcs : costsW n.op (dimF n.ts) (W0 n.ts) n.ts.length ps = cs at *
  have loop : ∀ (k i : Nat), i + k = cs.length → ∀ x : Int, 0 ≤ x → x ≤ 1000000000 → R (.loop F.sl17Cost 0) [isc x, ssc uc, isc (cs.length : Int), isc (i : Int)] H1 = some ⟨2, [isc (min (x + (cs.drop i).sum) 1000000000)], H1⟩ := by
    intro k
    induction k with
    | zero =>
      intro i hi x h0 h1
      obtain rfl : i = cs.length := by omega
      rw [R_eq, e_sl17Cost_0, lt_self, List.drop_eq_nil_of_le (Nat.le_refl _)]
      have : min (x + ([] : List Int).sum) 1000000000 = x := by simp; omega
      rw [this]; rfl
    | succ k ih =>
      intro i hi x h0 h1
      have h2 : i < cs.length := by omega
      have q1 := hrg cs[i] (List.getElem_mem h2)
      have q2 := sum_ge (l := cs.drop (i + 1)) fun c hc => (hrg c (List.mem_of_mem_drop hc)).1
      have w3 : IntKind.wrap .i64 (x + cs[i]) = x + cs[i] := by rw [wrap_id] <;> omega
      rw [R_eq, e_sl17Cost_0, lt_true h2, w1 h2 (by omega), cond_true, hc.ldk h2, w3]
      rw [ih (i + 1) (by omega) _ (by split <;> omega) (by split <;> omega), List.drop_eq_getElem_cons h2, List.sum_cons]
      congr 4
      split <;> omega
  have e3 := loop cs.length 0 (by omega) 0 (by omega) (by omega)
  have e3 : R (.loop F.sl17Cost 0) [isc 0, ssc uc, isc (cs.length : Int), isc 0] H1 = _ := e3
  refine ⟨H1, ?_, S1.le⟩
  rw [R_eq, e_sl17Cost, e1]
  simp only [Option.bind_some, t_hs]
  rw [hc.n, e3]
  simp only [Option.bind_some, Nat.beq, cond_true, n_int]
  have : costN n ps = min (0 + (cs.drop 0).sum) 1000000000 := by
    unfold costN costW
    rw [hcs, List.drop_zero, Int.zero_add]
  rw [this]
/-- spec.l17Peak -/
theorem c_sl17Peak {H : AH} {s u sp : Sl} {n : Nw} {ps : List Sp} (h : NS H s u n) (hS : SN n) (hp : S2 H sp ps) (hpl : ps.length ≤ 100) (ho : orderN ((List.range n.ts.length).map fun i : Nat => (i : Int)) n.ts.length ps = true) :
    ∃ H', R (.fn F.sl17Peak) [npv n.r s u, ssc sp] H = some ⟨1, [isc (peakN n ps)], H'⟩ ∧ Go.Abs.Le H H' := by
  obtain ⟨bs, sa, sg, uc, xs, al, gn, H1, e1, S1, hc, hz, hg, hx⟩ := c_sl17Run h hS hp hpl ho
  have hlen := S1.len
  have loop : ∀ (k i : Nat), i + k = xs.length → ∀ x : Int, R (.loop F.sl17Peak 0) [isc x, ssc sa, isc (xs.length : Int), isc (i : Int)] H1 = some ⟨2, [isc (((al.map (costL (dimF n.ts))).drop i).foldl max x)], H1⟩ := by
    intro k
    induction k with
    | zero =>
      intro i hi x
      obtain rfl : i = xs.length := by omega
      rw [R_eq, e_sl17Peak_0, lt_self, List.drop_eq_nil_of_le (by simp; omega)]
      rfl
    | succ k ih =>
      intro i hi x
      have h2 : i < xs.length := by omega
      have h3 : i < al.length := by omega
      obtain ⟨g1, g2⟩ := hg al[i] (List.getElem_mem h3)
      obtain ⟨_, i2⟩ := S1.labs i xs[i] al[i] (List.getElem?_eq_getElem h2) (List.getElem?_eq_getElem h3)
      have hlb := labs_len g1 g2
      have e2 := c_sl05Product_g i2 (by simp; omega) (fun d hd => by
        obtain ⟨y, hy, rfl⟩ := List.mem_map.1 hd
        have := g2 y hy
        omega)
      rw [R_eq, e_sl17Peak_0, lt_true h2, w1 h2 (by omega), cond_true, S1.all.ld h2, e2]
      simp only [Option.bind_some, one_int]
      have hif : (if (if min (prd (al[i].map (dimF n.ts))) 1000000001 < 1000000000 then min (prd (al[i].map (dimF n.ts))) 1000000001 else 1000000000) > x then (if min (prd (al[i].map (dimF n.ts))) 1000000001 < 1000000000 then min (prd (al[i].map (dimF n.ts))) 1000000001 else 1000000000) else x) = max x (costL (dimF n.ts) al[i]) := by
        unfold costL
        split <;> split <;> omega
      have hd : (al.map (costL (dimF n.ts))).drop i = costL (dimF n.ts) al[i] :: (al.map (costL (dimF n.ts))).drop (i + 1) := by
        rw [List.drop_eq_getElem_cons (by simpa using h3), List.getElem_map]
      rw [hif, ih (i + 1) (by omega), hd, List.foldl_cons]
  have e3 := loop xs.length 0 (by omega) 1
  have e3 : R (.loop F.sl17Peak 0) [isc 1, ssc sa, isc (xs.length : Int), isc 0] H1 = _ := e3
  refine ⟨H1, ?_, S1.le⟩
  rw [R_eq, e_sl17Peak, e1]
  simp only [Option.bind_some, t_hs, S1.rd]
  rw [show slAt [Sc.sl sa, Sc.sl sg] (0 + 0) = some sa from rfl]
  simp only [Option.bind_some]
  rw [S1.all.n, e3]
  simp only [Option.bind_some, Nat.beq, cond_true, n_int]
  have : peakN n ps = ((al.map (costL (dimF n.ts))).drop 0).foldl max 1 := by
    unfold peakN peakW
    rw [hz, List.drop_zero]
  rw [this]
end Go.Abs
/- Plans: a plan is made and checked (spec); what it saves (both). -/
namespace Go.Abs
set_option linter.all false
set_option maxRecDepth 10000

theorem mk_zeros {H : AH} {n : Nat} (hn : n ≤ 134217728) : mkAt (reserve H 1) (H.length + 0) 1 8 [.int .i64 0] (n : Int) (n : Int) = some (⟨H.length, 0, n, n, true⟩, H ++ [⟨ics (List.replicate n 0), .rw, 1⟩]) := by
  have := mkAt_ints (H := reserve H 1) (i := H.length + 0) (n := n) (by simp [isRes, reserve1, resB]) hn
  have e : (reserve H 1).set (H.length + 0) ⟨ics (List.replicate n 0), .rw, 1⟩ = H ++ [⟨ics (List.replicate n 0), .rw, 1⟩] := by rw [reserve1, Nat.add_zero, app_set]
  rw [this, e]; rfl
/-- Steps are copied behind an empty row. -/
theorem app_steps {H : AH} {s : Sl} {ps : List Sp} (h : S2 H s ps) (hl : ps.length ≤ 1048576) :
    ∃ s' H', (∀ {α : Type} (k : Sl × AH → Option α), ((newAt (reserve H 1) (H.length + 0) 2 []).bind fun h18 => (rng h18.2 s.b s.o (s.n * 2)).bind fun l19 => (appB h18.2 2 16 ⟨h18.1, 0, 0, 0, true⟩ l19 s.n).bind k) = k (s', H')) ∧ Go.Abs.Le H H' ∧ SOwn H.length H' s' ps := by
  have e0 : newAt (reserve H 1) (H.length + 0) 2 [] = some (H.length, H ++ [⟨[], .rw, 2⟩]) := by
    rw [Nat.add_zero, newAt_ok (by rw [reserve1]; simp) (by omega), reserve1, app_set]
  have l1 := Go.Abs.Le.app H [⟨[], .rw, 2⟩]
  have hr := (h.le l1).rng
  rw [e0]
  simp only [Option.bind_some, hr]
  rw [h.1]
  by_cases he : ps = []
  · subst he
    refine ⟨⟨H.length, 0, 0, 0, true⟩, H ++ [⟨[], .rw, 2⟩], fun k => ?_, l1, ⟨rfl, rfl, rfl, .inl ⟨rfl, rfl⟩⟩⟩
    have : appB (H ++ [⟨[], .rw, 2⟩]) 2 16 ⟨H.length, 0, 0, 0, true⟩ (scs []) ([] : List Sp).length = some (⟨H.length, 0, 0, 0, true⟩, H ++ [⟨[], .rw, 2⟩]) := by
      unfold appB
      simp [scs, putR]
    rw [this]; rfl
  · have hpos : 0 < ps.length := List.length_pos_iff.2 he
    refine ⟨⟨H.length + 1, 0, ps.length, ps.length, false⟩, H ++ [⟨[], .rw, 2⟩] ++ [⟨scs ps, .rw, 2⟩], fun k => ?_, l1.trans (Go.Abs.Le.app _ _), ⟨rfl, rfl, rfl, .inr ⟨he, by show H.length ≤ H.length + 1; omega, ?_⟩⟩⟩
    · have hm : (0 + ps.length) * 16 ≤ most := by unfold most; omega
      have : appB (H ++ [⟨[], .rw, 2⟩]) 2 16 ⟨H.length, 0, 0, 0, true⟩ (scs ps) ps.length = some (⟨H.length + 1, 0, ps.length, ps.length, false⟩, H ++ [⟨[], .rw, 2⟩] ++ [⟨scs ps, .rw, 2⟩]) := by
        unfold appB
        rw [if_neg (by simp; omega), if_pos ⟨by omega, by omega, hm⟩]
        have hr : Go.Abs.rng (H ++ [⟨[], .rw, 2⟩]) H.length 0 (0 * 2) = some [] := by unfold Go.Abs.rng; simp
        simp [hr]
      rw [this]; rfl
    · have : H.length + 1 = (H ++ [(⟨[], .rw, 2⟩ : Blk)]).length := by simp
      show (H ++ [⟨[], .rw, 2⟩] ++ [⟨scs ps, .rw, 2⟩])[H.length + 1]? = _
      rw [this]; exact app_get
theorem slG_op {n : Nw} {l : List Int} (hg : slG n [] l = true) : ∀ x ∈ n.op, x ∉ l := fun x hx hl => closF_op (slG_mem hg x hl) hx
/-- spec.MakePlan -/
theorem c_sMakePlan {H : AH} {s u sp v : Sl} {n : Nw} {ps : List Sp} {l : List Int} (h : NS H s u n) (ho : n.op.length ≤ 1048576) (hts : n.ts.length ≤ 4611686018427387904) (hp : S2 H sp ps) (hv : IS H v l) :
    (planG n ps l = true ∧ ∃ so sl H', R (.fn F.sMakePlan) [npv n.r s u, ssc sp, ssc v] H = some ⟨1, [ppv so sl (planP n ps l) (planC n ps l), bsc true], H'⟩ ∧ Go.Abs.Le H H' ∧ S2 H' so ps ∧ IS H' sl l) ∨
    (planG n ps l = false ∧ ∃ H', R (.fn F.sMakePlan) [npv n.r s u, ssc sp, ssc v] H = some ⟨1, [ppv ⟨0, 0, 0, 0, true⟩ ⟨0, 0, 0, 0, true⟩ 0 0, bsc false], H'⟩ ∧ Go.Abs.Le H H') := by
  obtain ⟨H1, e1, l1⟩ := c_sSliceCount h ho hv
  obtain ⟨H2, e2, l2⟩ := c_sOrderOk (h.le l1) ho (hp.le l1) hts
  have l12 := l1.trans l2
  cases hord : ordB n ps with
  | false =>
    rw [hord] at e2
    refine .inr ⟨by unfold planG; rw [hord]; rfl, H2, ?_, l12⟩
    rw [R_eq, e_sMakePlan, e1]
    simp only [Option.bind_some, one_int]
    rw [e2]
    simp only [Option.bind_some, one_bool, Bool.not_false, cond_true]
  | true =>
    rw [hord] at e2
    by_cases hc : sliceF n l = -1
    · refine .inr ⟨by unfold planG; rw [hc]; simp, H2, ?_, l12⟩
      rw [hc] at e1
      rw [R_eq, e_sMakePlan, e1]
      simp only [Option.bind_some, one_int]
      rw [e2]
      simp only [Option.bind_some, one_bool, Bool.not_true, cond_false]
      rfl
    · have hb1 : (sliceF n l == -1) = false := by simp [hc]
      have hsr := slice_range hc
      have hneg : decide (sliceF n l < 0) = false := decide_eq_false (by omega)
      obtain ⟨hn, hl, hg, _⟩ := sliceF_good hc
      obtain ⟨_, hpl, hon⟩ := ordB_at hord
      obtain ⟨b1, b2, b3⟩ := netB_small hn
      obtain ⟨_, _, m1, _, _, _, _, p1, _, p3, p4⟩ := c_isliceOf h hn hv hl hg
      have l3 := Go.Abs.Le.app H2 [⟨ics (List.replicate l.length 0), .rw, 1⟩]
      have hz : IS (H2 ++ [⟨ics (List.replicate l.length 0), .rw, 1⟩]) ⟨H2.length, 0, l.length, l.length, true⟩ (List.replicate l.length 0) := by
        have := IS.of_blk (H := H2 ++ [⟨ics (List.replicate l.length 0), .rw, 1⟩]) (l := List.replicate l.length (0 : Int)) (c := l.length) (x := true) app_get (by simp)
        rw [List.length_replicate] at this
        exact this
      have l13 := l12.trans l3
      obtain ⟨s', u', m', H4, e4, l4, N4, q2, q3, _, q4⟩ := c_sl15Slice (h.le l13) hn (hv.le l13) hz hl (slG_op hg)
      have l14 := l13.trans l4
      have hSN : SN m' := (SN.net p1).shp (p4.trans q4.symm) (p3.trans q3.symm)
      have hml : m'.ts.length = n.ts.length := by
        have := congrArg List.length q4
        rw [slA_len] at this
        simpa [shp] using this
      have hsh := peak_shp (a := m') (b := shN n l) q3 (q4.trans (shN_shp n l).symm) ps
      obtain ⟨so, H5, e5, l5, o5⟩ := app_steps (hp.le l14) (by omega)
      have l15 := l14.trans l5
      obtain ⟨sl, H6, e6, l6, o6⟩ := c_sl05Ints (hv.le l15) (by omega)
      have l16 := l15.trans l6
      obtain ⟨H7, e7, l7⟩ := c_sl17Peak ((N4.le l5).le l6) hSN (hp.le l16) (by omega) (by rw [hml]; exact hon)
      have l17 := l16.trans l7
      obtain ⟨H8, e8, l8⟩ := c_sl17Cost (((N4.le l5).le l6).le l7) hSN (hp.le l17) (by omega) (by rw [hml]; exact hon)
      rw [q2, hsh.1] at e7
      rw [q2, hsh.2] at e8
      have hcr := costN_range p1 ps
      rw [(peak_shp (a := m1) (b := shN n l) p3 (p4.trans (shN_shp n l).symm) ps).2] at hcr
      have hmul0 : 0 ≤ sliceF n l * costN (shN n l) ps := Int.mul_nonneg (by omega) hcr.1
      have hmul1 : sliceF n l * costN (shN n l) ps ≤ 4096 * 1000000000 := Int.mul_le_mul hsr.2 hcr.2 hcr.1 (by omega)
      have hw : IntKind.wrap .i64 (sliceF n l * costN (shN n l) ps) = sliceF n l * costN (shN n l) ps := by rw [wrap_id] <;> omega
      have hif : (if sliceF n l * costN (shN n l) ps < 1000000000 then sliceF n l * costN (shN n l) ps else 1000000000) = planC n ps l := by
        unfold planC; split <;> omega
      refine .inl ⟨by unfold planG; rw [hord, hb1]; rfl, so, sl, H8, ?_, l17.trans l8, (o5.le (l6.trans (l7.trans l8))).s2, o6.is.le (l7.trans l8)⟩
      rw [R_eq, e_sMakePlan, e1]
      simp only [Option.bind_some, one_int]
      rw [e2]
      simp only [Option.bind_some, one_bool, Bool.not_true, cond_false, hneg]
      rw [hv.n, mk_zeros (by omega)]
      simp only [Option.bind_some]
      rw [e4]
      simp only [Option.bind_some, o_iiiss]
      rw [e5]
      simp only
      rw [e6]
      simp only [Option.bind_some, one_sl]
      rw [e7]
      simp only [Option.bind_some, one_int]
      rw [e8]
      simp only [Option.bind_some, one_int]
      rw [hw, hif]
      rfl
end Go.Abs
/- Marks of a plan that was made: its rows are its own. -/
namespace Go.Abs
set_option linter.all false
set_option maxRecDepth 10000

def seqS (k : Int) : Nat → List Sp
  | 0 => []
  | n + 1 => ⟨k, k + 1⟩ :: seqS (k + 2) n
theorem seqS_len : ∀ (n : Nat) (k : Int), (seqS k n).length = n
  | 0, k => rfl
  | n + 1, k => by simp [seqS, seqS_len n]
theorem seqS_get : ∀ (n : Nat) (k : Int) (i : Nat), i < n → (seqS k n)[i]? = some ⟨k + 2 * i, k + 2 * i + 1⟩
  | n + 1, k, 0, _ => by simp [seqS]
  | n + 1, k, i + 1, h => by
    simp only [seqS, List.getElem?_cons_succ]
    rw [seqS_get n (k + 2) i (by omega)]
    have e : k + 2 + 2 * (i : Int) = k + 2 * ((i + 1 : Nat) : Int) := by omega
    rw [e]
/-- laws.markStepS -/
theorem p_steps {n0 : Nat} {H : AH} {s : Sl} {ps : List Sp} (h : SOwn n0 H s ps) (hl : ps.length ≤ 1048576) {k : Int} (h0 : 0 ≤ k) (h1 : k ≤ 4611686018427387904) :
    ∃ H', R (.fn F.wmarkStepS) [ssc s, isc k] H = some ⟨1, [isc (k + 2 * ps.length)], H'⟩ ∧ H'.length = H.length ∧ (∀ b, (b ≠ s.b ∨ ps = []) → H'[b]? = H[b]?) ∧ SOwn n0 H' s (seqS k ps.length) := by
  have hn := h.n
  by_cases he : ps = []
  · subst he
    have hx : s.x = true := by
      rcases h.blk with ⟨_, e⟩ | ⟨e, _⟩
      · exact e
      · exact absurd rfl e
    have e : R (.loop F.wmarkStepS 0) [ssc s, isc k, isc 0] H = some ⟨2, [isc k], H⟩ := by
      rw [R_eq, e_wmarkStepS_0, hn]; rfl
    refine ⟨H, ?_, rfl, fun _ _ => rfl, ⟨h.o, h.n, h.c, .inl ⟨rfl, hx⟩⟩⟩
    rw [R_eq, e_wmarkStepS, e]
    simp [Nat.beq, nthP, PV.sc?, intAt]
  · obtain ⟨hlo, hb⟩ : n0 ≤ s.b ∧ H[s.b]? = some ⟨scs ps, .rw, 2⟩ := by
      rcases h.blk with ⟨e, _⟩ | ⟨_, a, b⟩
      · exact absurd e he
      · exact ⟨a, b⟩
    have loop : ∀ (m i : Nat), i + m = ps.length → ∀ (Hc : AH) (cs : List Sc), Hc.length = H.length → (∀ b, b ≠ s.b → Hc[b]? = H[b]?) → Hc[s.b]? = some ⟨cs, .rw, 2⟩ → cs.length = ps.length * 2 →
        (∀ j, j < i → cs[j * 2]? = some (.int .i64 (k + 2 * j)) ∧ cs[j * 2 + 1]? = some (.int .i64 (k + 2 * j + 1))) →
        ∃ H', R (.loop F.wmarkStepS 0) [ssc s, isc (k + 2 * (i : Int)), isc (i : Int)] Hc = some ⟨2, [isc (k + 2 * ps.length)], H'⟩ ∧ H'.length = H.length ∧ (∀ b, b ≠ s.b → H'[b]? = H[b]?) ∧ H'[s.b]? = some ⟨scs (seqS k ps.length), .rw, 2⟩ := by
      intro m
      induction m with
      | zero =>
        intro i hi Hc cs hlen hoth hcb hcl hcs
        obtain rfl : i = ps.length := by omega
        refine ⟨Hc, by rw [R_eq, e_wmarkStepS_0, hn, lt_self]; rfl, hlen, hoth, ?_⟩
        have : cs = scs (seqS k ps.length) := by
          refine List.ext_getElem? fun j => ?_
          by_cases hj : j < ps.length * 2
          · have hq : j / 2 < ps.length := by omega
            have g1 := hcs (j / 2) hq
            have g2 := scs_get (seqS k ps.length) (j / 2) _ (seqS_get _ _ _ hq)
            rcases Nat.mod_two_eq_zero_or_one j with hm | hm
            · have e : j = j / 2 * 2 := by omega
              rw [e, g1.1]; exact g2.1.symm
            · have e : j = j / 2 * 2 + 1 := by omega
              rw [e, g1.2]; exact g2.2.symm
          · rw [List.getElem?_eq_none (by omega), List.getElem?_eq_none (by rw [scs_len, seqS_len]; omega)]
        rw [← this]; exact hcb
      | succ m ih =>
        intro i hi Hc cs hlen hoth hcb hcl hcs
        have hlt : i < ps.length := by omega
        have hw : IntKind.wrap .i64 (k + 2 * (i : Int) + 1) = k + 2 * (i : Int) + 1 := by rw [wrap_id] <;> omega
        have hw2 : IntKind.wrap .i64 (k + 2 * (i : Int) + 1 + 1) = k + 2 * ((i + 1 : Nat) : Int) := by rw [wrap_id] <;> omega
        rw [R_eq, e_wmarkStepS_0, hn, lt_true hlt, w1 hlt (by omega), cond_true, hw, hw2, ixA_nat (by rw [hn]; exact hlt)]
        simp only [Option.bind_some, h.o, Nat.zero_add, Nat.add_zero]
        rw [putR_one hcb (by omega)]
        simp only [Option.bind_some]
        rw [putR_one (set_get hcb) (by simp; omega), set_set]
        simp only [Option.bind_some]
        refine ih (i + 1) (by omega) _ _ (by simpa using hlen) (fun b hb => by rw [List.getElem?_set_ne (Ne.symm hb)]; exact hoth b hb) (set_get hcb) (by simpa using hcl) (fun j hj => ?_)
        by_cases e : j = i
        · subst e
          refine ⟨?_, ?_⟩
          · rw [List.getElem?_set_ne (by omega), List.getElem?_set_self (by omega)]
          · rw [List.getElem?_set_self (by simp; omega)]
        · have := hcs j (by omega)
          refine ⟨?_, ?_⟩
          · rw [List.getElem?_set_ne (by omega), List.getElem?_set_ne (by omega)]; exact this.1
          · rw [List.getElem?_set_ne (by omega), List.getElem?_set_ne (by omega)]; exact this.2
    obtain ⟨H', e, l1, o1, b1⟩ := loop ps.length 0 (by omega) H _ rfl (fun _ _ => rfl) hb (scs_len ps) (fun j hj => by omega)
    have e : R (.loop F.wmarkStepS 0) [ssc s, isc (k + 2 * (0 : Int)), isc 0] H = some ⟨2, [isc (k + 2 * ps.length)], H'⟩ := e
    rw [Int.mul_zero, Int.add_zero] at e
    refine ⟨H', by rw [R_eq, e_wmarkStepS, e]; rfl, l1, fun b hb => ?_, ⟨h.o, by rw [seqS_len]; exact h.n, by rw [seqS_len]; exact h.c, .inr ⟨fun e => he ?_, hlo, b1⟩⟩⟩
    · rcases hb with hb | hb
      · exact o1 b hb
      · exact absurd hb he
    · have := congrArg List.length e
      rw [seqS_len] at this
      exact List.length_eq_zero_iff.1 this
/-- laws.heldStepS, where the marks are held -/
theorem p_heldS {H : AH} {s : Sl} {n : Nat} {k : Int} (h : S2 H s (seqS k n)) (hl : n ≤ 1048576) (h0 : 0 ≤ k) (h1 : k ≤ 1099511627776) : R (.fn F.wheldStepS) [ssc s, isc k] H = some ⟨1, [isc (k + 2 * n)], H⟩ := by
  have hn : s.n = n := by rw [h.1, seqS_len]
  have loop : ∀ (m i : Nat), i + m = n → R (.loop F.wheldStepS 0) [ssc s, isc (k + 2 * (i : Int)), isc (i : Int)] H = some ⟨2, [isc (k + 2 * n)], H⟩ := by
    intro m
    induction m with
    | zero =>
      intro i hi
      obtain rfl : i = n := by omega
      rw [R_eq, e_wheldStepS_0, hn, lt_self]; rfl
    | succ m ih =>
      intro i hi
      have hlt : i < n := by omega
      have hw : IntKind.wrap .i64 (k + 2 * (i : Int) + 1) = k + 2 * (i : Int) + 1 := by rw [wrap_id] <;> omega
      have hw2 : IntKind.wrap .i64 (k + 2 * (i : Int) + 1 + 1) = k + 2 * ((i + 1 : Nat) : Int) := by rw [wrap_id] <;> omega
      rcases h.2.2 with e | ⟨cs, hc, hg⟩
      · have := congrArg List.length e
        rw [seqS_len] at this
        simp at this; omega
      · obtain ⟨g1, g2⟩ := hg i _ (seqS_get n k i hlt)
        have i1 : intAt .i64 cs (s.o + i * 2) = some (k + 2 * (i : Int)) := by exact intAt_get g1
        have i2 : intAt .i64 cs (s.o + i * 2 + 1) = some (k + 2 * (i : Int) + 1) := by exact intAt_get g2
        rw [R_eq, e_wheldStepS_0, hn, lt_true hlt, w1 hlt (by omega), cond_true, hw, hw2, ixA_nat (by rw [hn]; exact hlt)]
        simp only [Option.bind_some, hc, Nat.add_zero, i1, i2, ne_i, cond_false]
        exact ih (i + 1) (by omega)
  have e := loop n 0 (by omega)
  have e : R (.loop F.wheldStepS 0) [ssc s, isc (k + 2 * (0 : Int)), isc 0] H = some ⟨2, [isc (k + 2 * n)], H⟩ := e
  rw [Int.mul_zero, Int.add_zero] at e
  rw [R_eq, e_wheldStepS, e]; rfl
theorem SOwn.keep {n0 : Nat} {H H' : AH} {s : Sl} {ps : List Sp} (h : SOwn n0 H s ps) (hb : ps ≠ [] → H'[s.b]? = H[s.b]?) : SOwn n0 H' s ps :=
  ⟨h.o, h.n, h.c, h.blk.imp id fun ⟨a, b, c⟩ => ⟨a, b, by rw [hb a]; exact c⟩⟩
/-- laws.markPlan -/
theorem p_plan {n0 : Nat} {H : AH} {so sl : Sl} {ps : List Sp} {l : List Int} {p c : Int} (h : SOwn n0 H so ps) (k : Own n0 H sl l) (hp : ps.length ≤ 1048576) (hl : l.length ≤ 1048576) :
    ∃ H', R (.fn F.wmarkPlan) [ppv so sl p c, isc 1] H = some ⟨1, [isc (1 + 2 * (ps.length : Int) + l.length)], H'⟩ ∧ H'.length = H.length ∧ (∀ b, b < n0 → H'[b]? = H[b]?) ∧ S2 H' so (seqS 1 ps.length) ∧ IS H' sl (seqL (1 + 2 * (ps.length : Int)) l.length) := by
  obtain ⟨H1, e1, l1, f1, o1⟩ := p_steps h hp (k := 1) (by omega) (by omega)
  have ne : ps ≠ [] → l ≠ [] → so.b ≠ sl.b := fun hn hm e => by
    rcases h.blk with ⟨e1, _⟩ | ⟨_, _, hb⟩
    · exact hn e1
    rcases k.blk with ⟨e2, _⟩ | ⟨_, hk⟩
    · exact hm e2
    rw [e, hk] at hb
    simp at hb
  have k1 : Own n0 H1 sl l := k.mono fun hm => f1 _ (by
    by_cases hn : ps = []
    · exact .inr hn
    · exact .inl (Ne.symm (ne hn hm)))
  obtain ⟨H2, e2, l2, f2, o2⟩ := c_wmarkIntS k1 (by omega) (k := 1 + 2 * (ps.length : Int)) (by omega) (by omega)
  have o1' : SOwn n0 H2 so (seqS 1 ps.length) := o1.keep fun hn => f2 _ (by
    by_cases hm : l = []
    · exact .inr hm
    · refine .inl (ne (fun e => hn ?_) hm)
      rw [e]; rfl)
  refine ⟨H2, ?_, by omega, fun b hb => ?_, o1'.s2, o2.is⟩
  · rw [R_eq, e_wmarkPlan, e1]
    simp only [Option.bind_some, one_int]
    rw [e2]
    simp only [Option.bind_some, one_int]
  · rw [f2 b ?_, f1 b ?_]
    · rcases h.blk with ⟨e, _⟩ | ⟨_, hlo, _⟩
      · exact .inr e
      · exact .inl (by omega)
    · rcases k1.lo with e | e
      · exact .inr e
      · exact .inl (by omega)
/-- laws.heldPlan, where the marks are held -/
theorem p_held {H : AH} {so sl : Sl} {n m : Nat} {p c : Int} (h : S2 H so (seqS 1 n)) (k : IS H sl (seqL (1 + 2 * (n : Int)) m)) (hn : n ≤ 1048576) (hm : m ≤ 1048576) :
    R (.fn F.wheldPlan) [ppv so sl p c, isc 1] H = some ⟨1, [isc (1 + 2 * (n : Int) + m)], H⟩ := by
  rw [R_eq, e_wheldPlan, p_heldS h hn (by omega) (by omega)]
  simp only [Option.bind_some, one_int, decide_eq_false (show ¬ 1 + 2 * (n : Int) < 0 by omega), cond_false]
  rw [c_wheldIntS k (by omega) (by omega) (by omega)]
  simp only [Option.bind_some, one_int, decide_eq_false (show ¬ 1 + 2 * (n : Int) + (m : Int) < 0 by omega), cond_false]
/-- What a plan is made of. -/
def mS (n : Nw) (ps : List Sp) (l : List Int) : List Sp := if planG n ps l then ps else []
def mL (n : Nw) (ps : List Sp) (l : List Int) : List Int := if planG n ps l then l else []
def mP (n : Nw) (ps : List Sp) (l : List Int) : Int := if planG n ps l then planP n ps l else 0
def mC (n : Nw) (ps : List Sp) (l : List Int) : Int := if planG n ps l then planC n ps l else 0
theorem mS_len (n : Nw) (ps : List Sp) (l : List Int) : (mS n ps l).length ≤ ps.length := by unfold mS; split <;> simp
theorem mL_len (n : Nw) (ps : List Sp) (l : List Int) : (mL n ps l).length ≤ l.length := by unfold mL; split <;> simp
theorem k_iMakePlan {H : AH} {s u sp v : Sl} {n : Nw} {ps : List Sp} {l : List Int} (h : NS H s u n) (ho : n.op.length ≤ 1048576) (hts : n.ts.length ≤ 4611686018427387904) (hp : S2 H sp ps) (hv : IS H v l) :
    ∃ so sl H', R (.fn F.iMakePlan) [npv n.r s u, ssc sp, ssc v] H = some ⟨1, [ppv so sl (mP n ps l) (mC n ps l), bsc (planG n ps l)], H'⟩ ∧ Go.Abs.Le H H' ∧ SOwn H.length H' so (mS n ps l) ∧ Own H.length H' sl (mL n ps l) := by
  unfold mP mC mS mL
  rcases c_iMakePlan h ho hts hp hv with ⟨hg, so, sl, H', e, l1, o1, o2⟩ | ⟨hg, H', e, l1⟩
  · rw [hg]
    exact ⟨so, sl, H', e, l1, o1, o2⟩
  · rw [hg]
    exact ⟨⟨0, 0, 0, 0, true⟩, ⟨0, 0, 0, 0, true⟩, H', e, l1, ⟨rfl, rfl, rfl, .inl ⟨rfl, rfl⟩⟩, ⟨rfl, rfl, rfl, .inl rfl, .inl ⟨rfl, rfl⟩⟩⟩
theorem k_sMakePlan {H : AH} {s u sp v : Sl} {n : Nw} {ps : List Sp} {l : List Int} (h : NS H s u n) (ho : n.op.length ≤ 1048576) (hts : n.ts.length ≤ 4611686018427387904) (hp : S2 H sp ps) (hv : IS H v l) :
    ∃ so sl H', R (.fn F.sMakePlan) [npv n.r s u, ssc sp, ssc v] H = some ⟨1, [ppv so sl (mP n ps l) (mC n ps l), bsc (planG n ps l)], H'⟩ ∧ Go.Abs.Le H H' ∧ S2 H' so (mS n ps l) ∧ IS H' sl (mL n ps l) := by
  unfold mP mC mS mL
  rcases c_sMakePlan h ho hts hp hv with ⟨hg, so, sl, H', e, l1, o1, o2⟩ | ⟨hg, H', e, l1⟩
  · rw [hg]
    exact ⟨so, sl, H', e, l1, o1, o2⟩
  · rw [hg]
    exact ⟨⟨0, 0, 0, 0, true⟩, ⟨0, 0, 0, 0, true⟩, H', e, l1, ⟨rfl, Nat.le_refl _, .inl rfl⟩, ⟨rfl, Nat.le_refl _, .inl rfl⟩⟩
end Go.Abs
/- The law FnExactFormulaNetwork: its contract in plain Lean. -/
namespace Go.Abs
set_option linter.all false
set_option maxRecDepth 10000

def fieldsOf (P : Program) (t : TypeId) : Option (List (TypeId × Nat × Nat)) := match P.underlying t with
  | some (.struct fs) => some (fs.toList.map fun f => (f.type, f.offset, tsz P f.type))
  | _ => none
theorem open_struct {H : AH} {n : Nat} {t : TypeId} {L : List (TypeId × Nat × Nat)} (hf : fieldsOf P t = some L) {l : List Sc} (h : typed P (n + 1) H t l) : l.length = tsz P t ∧ ∀ x ∈ L, typed P n H x.1 ((l.drop x.2.1).take x.2.2) := by
  unfold fieldsOf at hf
  split at hf
  · rename_i fs hu
    cases hf
    simp only [typed, hu] at h
    refine ⟨h.1, fun x hx => ?_⟩
    obtain ⟨f, hm, rfl⟩ := List.mem_map.1 hx
    exact h.2 f hm
  · cases hf
theorem pvT_struct {t : TypeId} {L : List (TypeId × Nat × Nat)} (hf : fieldsOf P t = some L) (l : List Sc) : pvT P t l = .agg l := by
  unfold fieldsOf at hf
  unfold pvT
  split at hf
  · rename_i fs hu
    rw [hu]
  · cases hf
theorem u_int : P.underlying Y.tint = some (.int .i64) := by kernel_rfl
theorem u_Sint : P.underlying Y.tSint = some (.slice Y.tint) := by kernel_rfl
theorem z_int : tsz P Y.tint = 1 := by kernel_rfl
theorem f_Ring : fieldsOf P Y.tlaws_Ring = some [(Y.tint, 0, 1), (Y.tint, 1, 1), (Y.tint, 2, 1)] := by kernel_rfl
theorem z_Ring : tsz P Y.tlaws_Ring = 3 := by kernel_rfl
theorem len3 {α : Type} {l : List α} (h : l.length = 3) : ∃ a b c, l = [a, b, c] := by
  match l, h with
  | [a, b, c], _ => exact ⟨a, b, c, rfl⟩
theorem len2 {α : Type} {l : List α} (h : l.length = 2) : ∃ a b, l = [a, b] := by
  match l, h with
  | [a, b], _ => exact ⟨a, b, rfl⟩
theorem open_ring {H : AH} {n : Nat} {l : List Sc} (h : typed P (n + 2) H Y.tlaws_Ring l) : ∃ r : Rg, l = [.int .i64 r.k, .int .i64 r.p, .int .i64 r.n] := by
  obtain ⟨h1, h2⟩ := open_struct f_Ring h
  obtain ⟨a, b, c, rfl⟩ := len3 (h1.trans z_Ring)
  obtain ⟨k, hk, _⟩ := open_int u_int (h2 (Y.tint, 0, 1) (by simp))
  obtain ⟨p, hp, _⟩ := open_int u_int (h2 (Y.tint, 1, 1) (by simp))
  obtain ⟨m, hm, _⟩ := open_int u_int (h2 (Y.tint, 2, 1) (by simp))
  simp at hk hp hm
  exact ⟨⟨k, p, m⟩, by rw [hk, hp, hm]⟩
end Go.Abs
/- The law FnExactSessionOk: its contract in plain Lean. -/
namespace Go.Abs
set_option linter.all false
set_option maxRecDepth 10000

theorem f_Tensor : fieldsOf P Y.tlaws_Tensor = some [(Y.tSint, 0, 1), (Y.tSint, 1, 1), (Y.tSint, 2, 1)] := by kernel_rfl
theorem z_Tensor : tsz P Y.tlaws_Tensor = 3 := by kernel_rfl
theorem u_STensor : P.underlying Y.tSlaws_Tensor = some (.slice Y.tlaws_Tensor) := by kernel_rfl
theorem f_Step : fieldsOf P Y.tlaws_Step = some [(Y.tint, 0, 1), (Y.tint, 1, 1)] := by kernel_rfl
theorem z_Step : tsz P Y.tlaws_Step = 2 := by kernel_rfl
theorem u_SStep : P.underlying Y.tSlaws_Step = some (.slice Y.tlaws_Step) := by kernel_rfl
theorem f_Network : fieldsOf P Y.tlaws_Network = some [(Y.tlaws_Ring, 0, 3), (Y.tSlaws_Tensor, 3, 1), (Y.tSint, 4, 1)] := by kernel_rfl
theorem z_Network : tsz P Y.tlaws_Network = 5 := by kernel_rfl
theorem len5 {α : Type} {l : List α} (h : l.length = 5) : ∃ a b c d e, l = [a, b, c, d, e] := by
  match l, h with
  | [a, b, c, d, e], _ => exact ⟨a, b, c, d, e, rfl⟩
theorem take_three' {cells : List Sc} {i : Nat} {x y z : Sc} (h : (cells.drop (i * 3)).take 3 = [x, y, z]) : cells[i * 3]? = some x ∧ cells[i * 3 + 1]? = some y ∧ cells[i * 3 + 1 + 1]? = some z := by
  have h0 := congrArg (fun l => l[0]?) h
  have h1 := congrArg (fun l => l[1]?) h
  have h2 := congrArg (fun l => l[2]?) h
  simp at h0 h1 h2
  exact ⟨h0, h1, h2⟩
theorem take_two {cells : List Sc} {i : Nat} {x y : Sc} (h : (cells.drop (i * 2)).take 2 = [x, y]) : cells[i * 2]? = some x ∧ cells[i * 2 + 1]? = some y := by
  have h0 := congrArg (fun l => l[0]?) h
  have h1 := congrArg (fun l => l[1]?) h
  simp at h0 h1
  exact ⟨h0, h1⟩
theorem open_tensor {H : AH} {n : Nat} {l : List Sc} (h : typed P (n + 3) H Y.tlaws_Tensor l) : ∃ a b c t, l = [.sl a, .sl b, .sl c] ∧ TS H a b c t ∧ TnMax t := by
  obtain ⟨h1, h2⟩ := open_struct f_Tensor h
  obtain ⟨x, y, z, rfl⟩ := len3 (h1.trans z_Tensor)
  obtain ⟨a, L, ha, a1, a2, _⟩ := open_ints u_Sint u_int z_int (h2 (Y.tSint, 0, 1) (by simp))
  obtain ⟨b, D, hb, b1, b2, _⟩ := open_ints u_Sint u_int z_int (h2 (Y.tSint, 1, 1) (by simp))
  obtain ⟨c, X, hc, c1, c2, _⟩ := open_ints u_Sint u_int z_int (h2 (Y.tSint, 2, 1) (by simp))
  simp at ha hb hc
  exact ⟨a, b, c, ⟨L, D, X⟩, by rw [ha, hb, hc], ⟨a1, b1, c1⟩, a2, b2, c2⟩
theorem open_tensors {H : AH} {n : Nat} {l : List Sc} (h : typed P (n + 4) H Y.tSlaws_Tensor l) : ∃ s ts, l = [.sl s] ∧ T3 H s ts ∧ ts.length ≤ maxLen ∧ ∀ t ∈ ts, TnMax t := by
  obtain ⟨s, xs, h1, h2, h3, h4, h5, h6⟩ := open_sl (E := fun i cells (t : Tn) => (∃ a b c, cells[i * 3]? = some (.sl a) ∧ cells[i * 3 + 1]? = some (.sl b) ∧ cells[i * 3 + 1 + 1]? = some (.sl c) ∧ TS H a b c t) ∧ TnMax t) u_STensor z_Tensor h (fun cells i ht => by
    obtain ⟨a, b, c, t, e, g, m⟩ := open_tensor ht
    obtain ⟨q1, q2, q3⟩ := take_three' e
    exact ⟨t, ⟨a, b, c, q1, q2, q3, g⟩, m⟩)
  refine ⟨s, xs, h1, ⟨h2, h3, h6.imp id fun ⟨cells, g1, g2⟩ => ⟨cells, g1, fun i t hi => ?_⟩⟩, h4, fun t ht => ?_⟩
  · obtain ⟨j, hj⟩ := List.getElem?_of_mem ht
    rcases h6 with e | ⟨cells, _, g2⟩
    · rw [e] at ht; simp at ht
    · exact (g2 j t hj).2
  · rw [h5, Nat.zero_add]
    exact (g2 i t hi).1
theorem open_steps {H : AH} {n : Nat} {l : List Sc} (h : typed P (n + 3) H Y.tSlaws_Step l) : ∃ s ps, l = [.sl s] ∧ S2 H s ps ∧ ps.length ≤ maxLen := by
  obtain ⟨s, xs, h1, h2, h3, h4, h5, h6⟩ := open_sl (E := fun i cells (g : Sp) => cells[i * 2]? = some (.int .i64 g.a) ∧ cells[i * 2 + 1]? = some (.int .i64 g.b)) u_SStep z_Step h (fun cells i ht => by
    obtain ⟨g1, g2⟩ := open_struct f_Step ht
    obtain ⟨a, b, hab⟩ := len2 (g1.trans z_Step)
    rw [hab] at g2
    obtain ⟨k, hk, _⟩ := open_int u_int (g2 (Y.tint, 0, 1) (by simp))
    obtain ⟨p, hp, _⟩ := open_int u_int (g2 (Y.tint, 1, 1) (by simp))
    simp at hk hp
    rw [hk, hp] at hab
    exact ⟨⟨k, p⟩, take_two hab⟩)
  refine ⟨s, xs, h1, ⟨h2, h3, h6.imp id fun ⟨cells, g1, g2⟩ => ⟨cells, g1, fun i g hi => by rw [h5, Nat.zero_add]; exact g2 i g hi⟩⟩, h4⟩
theorem open_network {H : AH} {n : Nat} {l : List Sc} (h : typed P (n + 5) H Y.tlaws_Network l) : ∃ s u g, l = [.int .i64 g.r.k, .int .i64 g.r.p, .int .i64 g.r.n, .sl s, .sl u] ∧ NS H s u g ∧ NwMax g := by
  obtain ⟨h1, h2⟩ := open_struct f_Network h
  obtain ⟨x0, x1, x2, x3, x4, rfl⟩ := len5 (h1.trans z_Network)
  obtain ⟨r, hr⟩ := open_ring (h2 (Y.tlaws_Ring, 0, 3) (by simp))
  obtain ⟨s, ts, hs, s1, s2, s3⟩ := open_tensors (h2 (Y.tSlaws_Tensor, 3, 1) (by simp))
  obtain ⟨u, op, hu, u1, u2, _⟩ := open_ints u_Sint u_int z_int (h2 (Y.tSint, 4, 1) (by simp))
  simp at hr hs hu
  exact ⟨s, u, ⟨r, ts, op⟩, by rw [hr.1, hr.2.1, hr.2.2, hs, hu], ⟨s1, u1⟩, s2, u2, s3⟩
end Go.Abs
/- The laws FnExactPlanOk and FnExactPlanSavings: their contracts in plain Lean. -/
namespace Go.Abs
set_option linter.all false
set_option maxRecDepth 10000

end Go.Abs
/- The law FnExactMakePlan: its contract in plain Lean. -/
namespace Go.Abs
set_option linter.all false
set_option maxRecDepth 10000

theorem pvT_slice {t e : TypeId} (hu : P.underlying t = some (.slice e)) (s : Sc) : pvT P t [s] = .sc s := by
  unfold pvT; rw [hu]
theorem calc_MakePlan {r : Rg} {v0 v1 pP pC k1 k2 k3 m : Int} {b : Bool} {s u sp w s1 u1 a1 b1 s2 u2 a2 b2 s3 u3 a3 b3 s4 u4 a4 b4 so0 sl0 so1 sl1 so2 sl2 : Sl} {H0 H1 H2 H3 H4 H5 H6 H7 H8 H9 H10 H11 H12 H13 H14 H15 H16 H17 H18 H19 : AH}
    (dl : decide ((w.n : Int) > 1048576) = false) (d0 : decide (v0 < 0) = false) (d1 : decide (v1 < 0) = false) (d3 : decide (k3 < 0) = false) (dm : decide (m < 0) = false)
    (z0 : R (.fn F.wszNetwork) [npv r s u, isc 1048576] H0 = some ⟨1, [isc v0], H0⟩)
    (z1 : R (.fn F.wszStepS) [ssc sp, isc v0] H0 = some ⟨1, [isc v1], H0⟩)
    (e1 : R (.fn F.wtoNetwork) [npv r s u] H0 = some ⟨1, [npv r s1 u1], H1⟩)
    (e2 : R (.fn F.wtoStepS) [ssc sp] H1 = some ⟨1, [ssc a1], H2⟩)
    (e3 : R (.fn F.wtoIntS) [ssc w] H2 = some ⟨1, [ssc b1], H3⟩)
    (e4 : R (.fn F.sMakePlan) [npv r s1 u1, ssc a1, ssc b1] H3 = some ⟨1, [ppv so0 sl0 pP pC, bsc b], H4⟩)
    (e5 : R (.fn F.wtoNetwork) [npv r s u] H4 = some ⟨1, [npv r s2 u2], H5⟩)
    (e6 : R (.fn F.wtoStepS) [ssc sp] H5 = some ⟨1, [ssc a2], H6⟩)
    (e7 : R (.fn F.wtoIntS) [ssc w] H6 = some ⟨1, [ssc b2], H7⟩)
    (e8 : R (.fn F.iMakePlan) [npv r s2 u2, ssc a2, ssc b2] H7 = some ⟨1, [ppv so1 sl1 pP pC, bsc b], H8⟩)
    (q1 : R (.fn F.weqPlan) [ppv so1 sl1 pP pC, ppv so0 sl0 pP pC] H8 = some ⟨1, [bsc true], H8⟩)
    (e9 : R (.fn F.wtoNetwork) [npv r s u] H8 = some ⟨1, [npv r s3 u3], H9⟩)
    (q2 : R (.fn F.weqNetwork) [npv r s2 u2, npv r s3 u3] H9 = some ⟨1, [bsc true], H9⟩)
    (e10 : R (.fn F.wtoStepS) [ssc sp] H9 = some ⟨1, [ssc a3], H10⟩)
    (q3 : R (.fn F.weqStepS) [ssc a2, ssc a3] H10 = some ⟨1, [bsc true], H10⟩)
    (e11 : R (.fn F.wtoIntS) [ssc w] H10 = some ⟨1, [ssc b3], H11⟩)
    (q4 : R (.fn F.weqIntS) [ssc b2, ssc b3] H11 = some ⟨1, [bsc true], H11⟩)
    (m1 : R (.fn F.wmarkNetwork) [npv r s2 u2, isc 1] H11 = some ⟨1, [isc k1], H12⟩)
    (m2 : R (.fn F.wmarkStepS) [ssc a2, isc k1] H12 = some ⟨1, [isc k2], H13⟩)
    (m3 : R (.fn F.wmarkIntS) [ssc b2, isc k2] H13 = some ⟨1, [isc k3], H14⟩)
    (q5 : R (.fn F.weqPlan) [ppv so1 sl1 pP pC, ppv so0 sl0 pP pC] H14 = some ⟨1, [bsc true], H14⟩)
    (m4 : R (.fn F.wmarkPlan) [ppv so1 sl1 pP pC, isc 1] H14 = some ⟨1, [isc m], H15⟩)
    (h1 : R (.fn F.wheldPlan) [ppv so1 sl1 pP pC, isc 1] H15 = some ⟨1, [isc m], H15⟩)
    (e16 : R (.fn F.wtoNetwork) [npv r s u] H15 = some ⟨1, [npv r s4 u4], H16⟩)
    (e17 : R (.fn F.wtoStepS) [ssc sp] H16 = some ⟨1, [ssc a4], H17⟩)
    (e18 : R (.fn F.wtoIntS) [ssc w] H17 = some ⟨1, [ssc b4], H18⟩)
    (e19 : R (.fn F.iMakePlan) [npv r s4 u4, ssc a4, ssc b4] H18 = some ⟨1, [ppv so2 sl2 pP pC, bsc b], H19⟩)
    (q6 : R (.fn F.weqPlan) [ppv so2 sl2 pP pC, ppv so0 sl0 pP pC] H19 = some ⟨1, [bsc true], H19⟩)
    (h2 : R (.fn F.wheldPlan) [ppv so1 sl1 pP pC, isc 1] H19 = some ⟨1, [isc m], H19⟩) :
    R (.fn F.wFnExactMakePlan) [npv r s u, ssc sp, ssc w] H0 = some ⟨1, [bsc true], H19⟩ := by
  rw [R_eq, e_wFnExactMakePlan, dl, cond_false, z0]
  simp only [Option.bind_some, one_int, d0, cond_false]
  rw [z1]
  simp only [Option.bind_some, one_int, d1, cond_false]
  rw [e1]
  simp only [Option.bind_some, o_iiiss]
  rw [e2]
  simp only [Option.bind_some, one_sl]
  rw [e3]
  simp only [Option.bind_some, one_sl]
  rw [e4]
  simp only [Option.bind_some, t_ssii_b]
  rw [e5]
  simp only [Option.bind_some, o_iiiss]
  rw [e6]
  simp only [Option.bind_some, one_sl]
  rw [e7]
  simp only [Option.bind_some, one_sl]
  rw [e8]
  simp only [Option.bind_some, t_ssii_b]
  rw [q1]
  simp only [Option.bind_some, one_bool, Bool.not_true, cond_false, ne_b]
  rw [e9]
  simp only [Option.bind_some, o_iiiss]
  rw [q2]
  simp only [Option.bind_some, one_bool, Bool.not_true, cond_false]
  rw [e10]
  simp only [Option.bind_some, one_sl]
  rw [q3]
  simp only [Option.bind_some, one_bool, Bool.not_true, cond_false]
  rw [e11]
  simp only [Option.bind_some, one_sl]
  rw [q4]
  simp only [Option.bind_some, one_bool, Bool.not_true, cond_false]
  rw [m1]
  simp only [Option.bind_some, one_int]
  rw [m2]
  simp only [Option.bind_some, one_int]
  rw [m3]
  simp only [Option.bind_some, one_int, d3, cond_false]
  rw [q5]
  simp only [Option.bind_some, one_bool, Bool.not_true, cond_false, ne_b]
  rw [m4]
  simp only [Option.bind_some, one_int]
  rw [h1]
  simp only [Option.bind_some, one_int, dm, cond_false, ne_i]
  rw [e16]
  simp only [Option.bind_some, o_iiiss]
  rw [e17]
  simp only [Option.bind_some, one_sl]
  rw [e18]
  simp only [Option.bind_some, one_sl]
  rw [e19]
  simp only [Option.bind_some, t_ssii_b]
  rw [q6]
  simp only [Option.bind_some, one_bool, Bool.not_true, cond_false, ne_b]
  rw [h2]
  simp only [Option.bind_some, one_int, dm, cond_false, ne_i]
theorem WN.ext {n0 n1 n2 : Nat} {H H' : AH} {s u : Sl} {n : Nw} (h : WN n0 n1 H s u n) (k : Go.Abs.Le H H') (hn : n1 ≤ n2) : WN n0 n2 H' s u n := ⟨h.ts.ext k hn, h.op.ext k hn, h.no⟩
/-- A network, steps and numbers are copied. -/
theorem copy3 {H0 H : AH} {s u sp w : Sl} {n : Nw} {ps : List Sp} {l : List Int} (h : NS H0 s u n) (hs : NwSmall n) (hp : S2 H0 sp ps) (hv : IS H0 w l) (m1 : ps.length ≤ 1048576) (m2 : l.length ≤ 1048576) (hl : Go.Abs.Le H0 H) :
    ∃ s1 u1 a1 b1 H1 H2 H3, R (.fn F.wtoNetwork) [npv n.r s u] H = some ⟨1, [npv n.r s1 u1], H1⟩ ∧ R (.fn F.wtoStepS) [ssc sp] H1 = some ⟨1, [ssc a1], H2⟩ ∧ R (.fn F.wtoIntS) [ssc w] H2 = some ⟨1, [ssc b1], H3⟩ ∧
      Go.Abs.Le H H1 ∧ Go.Abs.Le H1 H2 ∧ Go.Abs.Le H2 H3 ∧ NS H1 s1 u1 n ∧ S2 H2 a1 ps ∧ IS H3 b1 l ∧ WN H.length H1.length H1 s1 u1 n ∧ WS 2 H1.length H2.length H2 a1 ∧ WS 1 H2.length H3.length H3 b1 ∧ a1.n = ps.length ∧ b1.n = l.length := by
  obtain ⟨s1, u1, H1, e1, l1, n1, w1⟩ := w_toNetwork (h.le hl) hs
  have k1 := hl.trans l1
  obtain ⟨a1, H2, e2, l2, n2, w2, y2⟩ := w_toStepS (hp.le k1) m1
  obtain ⟨b1, H3, e3, l3, n3, w3, y3, _⟩ := w_toIntS (hv.le (k1.trans l2)) m2
  exact ⟨s1, u1, a1, b1, H1, H2, H3, e1, e2, e3, l1, l2, l3, n1, n2, n3, w1, w2, w3, y2, y3⟩
theorem law_MakePlan : LawPure P R F.wFnExactMakePlan [Y.tlaws_Network, Y.tSlaws_Step, Y.tSint] := by
  intro H0 ls hro hA
  obtain ⟨l1, l2, l3, rfl, t1, t2, t3⟩ : ∃ l1 l2 l3, ls = [l1, l2, l3] ∧ typed P 8 H0 Y.tlaws_Network l1 ∧ typed P 8 H0 Y.tSlaws_Step l2 ∧ typed P 8 H0 Y.tSint l3 := by
    cases hA with
    | cons a h =>
      cases h with
      | cons b h =>
        cases h with
        | cons c h => cases h; exact ⟨_, _, _, rfl, a, b, c⟩
  obtain ⟨s, u, n, rfl, h, hm⟩ := open_network t1
  obtain ⟨sp, ps, rfl, hp, hpm⟩ := open_steps t2
  obtain ⟨w, l, rfl, hv, hvm, _⟩ := open_ints u_Sint u_int z_int t3
  show ∃ H', R _ [pvT P Y.tlaws_Network _, pvT P Y.tSlaws_Step _, pvT P Y.tSint _] H0 = _
  rw [pvT_struct f_Network, pvT_slice u_SStep, pvT_slice u_Sint]
  show ∃ H', R (.fn F.wFnExactMakePlan) [npv n.r s u, ssc sp, ssc w] H0 = _
  by_cases hwl : (w.n : Int) > 1048576
  · refine ⟨H0, ?_⟩
    rw [R_eq, e_wFnExactMakePlan, decide_eq_true hwl]
    rfl
  have hd : decide ((w.n : Int) > 1048576) = false := decide_eq_false hwl
  obtain ⟨v0, z0, hneg | ⟨g1, g2, hs⟩⟩ := z_network h hm (left := 1048576) (by omega) (by omega)
  · refine ⟨H0, ?_⟩
    rw [R_eq, e_wFnExactMakePlan, hd, cond_false, z0]
    simp only [Option.bind_some, one_int, decide_eq_true hneg, cond_true]
  obtain ⟨v1, z1, hneg | ⟨g3, g4, m1⟩⟩ := z_steps hp hpm g1 g2
  · refine ⟨H0, ?_⟩
    rw [R_eq, e_wFnExactMakePlan, hd, cond_false, z0]
    simp only [Option.bind_some, one_int, decide_eq_false (Int.not_lt.2 g1), cond_false]
    rw [z1]
    simp only [Option.bind_some, one_int, decide_eq_true hneg, cond_true]
  have m2 : l.length ≤ 1048576 := by have := hv.n; omega
  have ho := hs.2.1
  have hts : n.ts.length ≤ 4611686018427387904 := by have := hs.1; omega
  have hSl := mS_len n ps l
  have hLl := mL_len n ps l
  -- the reference
  obtain ⟨s1, u1, a1, b1, H1, H2, H3, e1, e2, e3, l1, l2, l3, n1, n2, n3, _⟩ := copy3 h hs hp hv m1 m2 (Go.Abs.Le.refl H0)
  obtain ⟨so0, sl0, H4, e4, l4, p4, i4⟩ := k_sMakePlan ((n1.le l2).le l3) ho hts (n2.le l3) n3
  have l04 := ((l1.trans l2).trans l3).trans l4
  -- the program
  obtain ⟨s2, u2, a2, b2, H5, H6, H7, e5, e6, e7, l5, l6, l7, n5, n6, n7, w5, w6, w7, y6, y7⟩ := copy3 h hs hp hv m1 m2 l04
  obtain ⟨so1, sl1, H8, e8, l8, p8, i8⟩ := k_iMakePlan ((n5.le l6).le l7) ho hts (n6.le l7) n7
  have l47 := (l5.trans l6).trans l7
  have l48 := l47.trans l8
  have q1 := plan_eq (pk := mP n ps l) (ct := mC n ps l) p8.s2 i8.is (p4.le l48) (i4.le l48) (by omega) (by omega)
  -- the arguments stay
  obtain ⟨s3, u3, a3, b3, H9, H10, H11, e9, e10, e11, l9, l10, l11, n9, n10, n11, _⟩ := copy3 h hs hp hv m1 m2 (l04.trans l48)
  have q2 := c19_eq ((((n5.le l6).le l7).le l8).le l9) n9 hs.1 hs.2.2 hs.2.1
  have q3 := steps_eq ((((n6.le l7).le l8).le l9).le l10) n10 m1
  have q4 := c52_eq ((((n7.le l8).le l9).le l10).le l11) n11 m2
  -- their copies are marked
  have l811 := (l9.trans l10).trans l11
  have l711 := l8.trans l811
  have c5 := l5.len; have c6 := l6.len; have c7 := l7.len
  have W5 : WN H4.length H7.length H11 s2 u2 n := w5.ext ((l6.trans l7).trans l711) (by omega)
  have W6 : WS 2 H4.length H7.length H11 a2 := (w6.ext (l7.trans l711) c7).low (by omega)
  have W7 : WS 1 H4.length H7.length H11 b2 := (w7.ext l711 (Nat.le_refl _)).low (by omega)
  obtain ⟨k1, H12, f1, E1, r1, r2⟩ := m_network W5 hs
  obtain ⟨H13, f2, E2⟩ := m_steps (W6.she E1) (by omega) r1 (by omega)
  obtain ⟨H14, f3, E3⟩ := m_ints ((W7.she E1).she E2) (by omega) (k := k1 + 2 * a2.n) (by omega) (by omega)
  have E := (E1.trans E2).trans E3
  have l4_11 := l48.trans l811
  have l4_14 := E.le l4_11 (Nat.le_refl _)
  have l0_14 := l04.trans l4_14
  have p14 : SOwn H7.length H14 so1 (mS n ps l) := (p8.le l811).keep fun hn => E.out _ (.inr (by
    rcases p8.blk with ⟨e, _⟩ | ⟨_, hlo, _⟩
    · exact absurd e hn
    · exact hlo))
  have i14 : Own H7.length H14 sl1 (mL n ps l) := (i8.le l811).mono fun hn => E.out _ (.inr (by
    rcases i8.lo with e | hlo
    · exact absurd e hn
    · exact hlo))
  have q5 := plan_eq (pk := mP n ps l) (ct := mC n ps l) p14.s2 i14.is (p4.le l4_14) (i4.le l4_14) (by omega) (by omega)
  -- the plan is marked
  obtain ⟨H15, f4, hl15, fr15, p15, i15⟩ := p_plan (p := mP n ps l) (c := mC n ps l) p14 i14 (by omega) (by omega)
  have l4_15 : Go.Abs.Le H4 H15 := ⟨by rw [hl15]; exact l4_14.len, fun b hb => by rw [fr15 b (by have := l47.len; omega)]; exact l4_14.get b hb⟩
  have h1 := p_held (p := mP n ps l) (c := mC n ps l) p15 i15 (by omega) (by omega)
  -- once more
  obtain ⟨s4, u4, a4, b4, H16, H17, H18, e16, e17, e18, l16, l17, l18, n16, n17, n18, _⟩ := copy3 h hs hp hv m1 m2 (l04.trans l4_15)
  obtain ⟨so2, sl2, H19, e19, l19, p19, i19⟩ := k_iMakePlan ((n16.le l17).le l18) ho hts (n17.le l18) n18
  have l1519 := ((l16.trans l17).trans l18).trans l19
  have q6 := plan_eq (pk := mP n ps l) (ct := mC n ps l) p19.s2 i19.is (p4.le (l4_15.trans l1519)) (i4.le (l4_15.trans l1519)) (by omega) (by omega)
  have h2 := p_held (p := mP n ps l) (c := mC n ps l) (p15.le l1519) (i15.le l1519) (by omega) (by omega)
  exact ⟨H19, calc_MakePlan hd (decide_eq_false (Int.not_lt.2 g1)) (decide_eq_false (Int.not_lt.2 g3)) (decide_eq_false (by omega)) (decide_eq_false (by omega)) z0 z1 e1 e2 e3 e4 e5 e6 e7 e8 q1 e9 q2 e10 q3 e11 q4 f1 f2 f3 q5 f4 h1 e16 e17 e18 e19 q6 h2⟩
end Go.Abs
