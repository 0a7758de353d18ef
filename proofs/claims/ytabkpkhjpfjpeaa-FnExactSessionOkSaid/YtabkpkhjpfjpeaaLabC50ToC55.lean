/- Part of the proof of FnExactSessionOk: that for every input the law answers true and leaves what it reads as it was. Conditions: none beyond the given statement. -/
import Derived.Test.YtabkpkhjpfjpeaaLabC28ToC49
set_option linter.all false
/- Contracts: orders (spec): the same answer. -/
namespace Go.Abs
set_option linter.all false
set_option maxRecDepth 10000

def orderU : List Bool → Int → List Sp → Bool
  | _, _, [] => true
  | us, top, p :: ps => if p.a < 0 ∨ p.a ≥ p.b ∨ p.b ≥ top ∨ us.getD p.a.toNat false = true ∨ us.getD p.b.toNat false = true then false else orderU ((us.set p.a.toNat true).set p.b.toNat true) (top + 1) ps
theorem getD_setB {us : List Bool} {i j : Nat} (hi : i < us.length) (v : Bool) : (us.set i v).getD j false = if i = j then v else us.getD j false := by
  simp only [List.getD_eq_getElem?_getD, List.getElem?_set]
  split
  · first | rfl | (rw [if_pos (by omega)]; rfl)
  · rfl
theorem orderN_U : ∀ (ps : List Sp) (ns : List Int) (us : List Bool) (top : Int), 0 ≤ top → top + ps.length ≤ us.length → (∀ x : Int, x ∈ ns ↔ (0 ≤ x ∧ x < top ∧ us.getD x.toNat false = false)) → (∀ x : Int, top ≤ x → us.getD x.toNat false = false) → orderN ns top ps = orderU us top ps
  | [], _, _, _, _, _, _, _ => rfl
  | p :: ps, ns, us, top, h0, hl, hx, hr => by
    simp only [List.length_cons] at hl
    simp only [orderN, orderU]
    by_cases hc : p.a ∈ ns ∧ p.b ∈ ns ∧ p.a < p.b
    · obtain ⟨ha, hb, hab⟩ := hc
      have ga := (hx p.a).1 ha
      have gb := (hx p.b).1 hb
      rw [if_pos ⟨ha, hb, hab⟩, if_neg]
      · have hal : p.a.toNat < us.length := by omega
        have hbl : p.b.toNat < (us.set p.a.toNat true).length := by simp; omega
        have hget : ∀ x : Int, ((us.set p.a.toNat true).set p.b.toNat true).getD x.toNat false = if p.b.toNat = x.toNat then true else if p.a.toNat = x.toNat then true else us.getD x.toNat false := fun x => by
          rw [getD_setB hbl, getD_setB hal]
        refine orderN_U ps _ _ (top + 1) (by omega) (by simp; omega) (fun x => ?_) (fun x hx1 => ?_)
        · rw [hget, List.mem_append, List.mem_filter, hx x]
          simp only [Bool.and_eq_true, bne_iff_ne, List.mem_singleton]
          constructor
          · rintro (⟨⟨g1, g2, g3⟩, g4, g5⟩ | rfl)
            · refine ⟨g1, by omega, ?_⟩
              rw [if_neg (by omega), if_neg (by omega)]; exact g3
            · refine ⟨h0, by omega, ?_⟩
              rw [if_neg (by omega), if_neg (by omega)]; exact hr x (Int.le_refl _)
          · rintro ⟨g1, g2, g3⟩
            by_cases e1 : p.b.toNat = x.toNat
            · rw [if_pos e1] at g3; cases g3
            rw [if_neg e1] at g3
            by_cases e2 : p.a.toNat = x.toNat
            · rw [if_pos e2] at g3; cases g3
            rw [if_neg e2] at g3
            by_cases e3 : x = top
            · exact .inr e3
            · exact .inl ⟨⟨g1, by omega, g3⟩, by omega, by omega⟩
        · rw [hget, if_neg (by omega), if_neg (by omega)]
          exact hr x (by omega)
      · rintro (h | h | h | h | h)
        · omega
        · omega
        · omega
        · rw [ga.2.2] at h; cases h
        · rw [gb.2.2] at h; cases h
    · rw [if_neg hc, if_pos]
      by_cases h1 : p.a < 0
      · exact .inl h1
      by_cases h2 : p.a ≥ p.b
      · exact .inr (.inl h2)
      by_cases h3 : p.b ≥ top
      · exact .inr (.inr (.inl h3))
      cases h4 : us.getD p.a.toNat false with
      | true => exact .inr (.inr (.inr (.inl rfl)))
      | false =>
        cases h5 : us.getD p.b.toNat false with
        | true => exact .inr (.inr (.inr (.inr rfl)))
        | false => exact absurd ⟨(hx p.a).2 ⟨by omega, by omega, h4⟩, (hx p.b).2 ⟨by omega, by omega, h5⟩, by omega⟩ hc

theorem bool_ld_i {H : AH} {b n : Nat} {x : Bool} {cs : List Bool} (hb : H[b]? = some ⟨bcs cs, .rw, 1⟩) {y : Int} (h0 : 0 ≤ y) (hi : y < n) (hc : n ≤ cs.length) {α : Type} (k : Bool → Option α) :
    ((ixA ⟨b, 0, n, n, x⟩ y 1).bind fun o => (rdB H b).bind fun q => (boolAt q o).bind k) = k (cs.getD y.toNat false) := by
  have e : y = ((y.toNat : Nat) : Int) := by omega
  have := bool_ld (n := n) (x := x) hb (i := y.toNat) (by omega) (by omega) k
  rw [← e] at this
  rw [this]
  congr 1
  simp [List.getD_eq_getElem?_getD, show y.toNat < cs.length by omega]
theorem bool_put_i {H : AH} {b n : Nat} {x : Bool} {cs : List Bool} (hb : H[b]? = some ⟨bcs cs, .rw, 1⟩) {y : Int} (h0 : 0 ≤ y) (hi : y < n) (hc : n ≤ cs.length) (v : Bool) {α : Type} (k : AH → Option α) :
    ((ixA ⟨b, 0, n, n, x⟩ y 1).bind fun o => (putR H b o [.bool v]).bind k) = k (H.set b ⟨bcs (cs.set y.toNat v), .rw, 1⟩) := by
  have e : y = ((y.toNat : Nat) : Int) := by omega
  have := bool_put (n := n) (x := x) hb (i := y.toNat) (by omega) (by omega) v k
  rw [← e] at this
  exact this
/-- spec.OrderOk: the steps -/
theorem c_sOrderOk_0 {H0 : AH} {bu N m : Nat} {sp : Sl} {ps : List Sp} (hu : H0.length ≤ bu) (hp : S2 H0 sp ps) (hN : N = m + ps.length) (hNs : N ≤ 4096) :
    ∀ (k i : Nat) (H : AH) (us : List Bool), i + k = ps.length → Go.Abs.Le H0 H → H[bu]? = some ⟨bcs us, .rw, 1⟩ → us.length = N →
      ∃ H', R (.loop F.sOrderOk 0) [isc (m : Int), ssc ⟨bu, 0, N, N, true⟩, ssc sp, isc (ps.length : Int), isc (i : Int)] H = cond (orderU us ((m + i : Nat) : Int) (ps.drop i)) (some ⟨2, [], H'⟩) (some ⟨1, [bsc false], H'⟩) ∧ Go.Abs.Le H0 H'
  | 0, i, H, us, hi, hle, hb, hl => by
    obtain rfl : i = ps.length := by omega
    refine ⟨H, ?_, hle⟩
    rw [R_eq, e_sOrderOk_0, lt_self]
    simp [orderU]
  | k + 1, i, H, us, hi, hle, hb, hl => by
    have hlt : i < ps.length := by omega
    have hw : IntKind.wrap .i64 ((m : Int) + (i : Int)) = ((m + i : Nat) : Int) := by rw [wrap_id] <;> omega
    rw [List.drop_eq_getElem_cons hlt]
    simp only [orderU]
    rw [R_eq, e_sOrderOk_0, lt_true hlt, w1 hlt (by omega), cond_true, (hp.le hle).ld hlt, hw]
    by_cases h1 : ps[i].a < 0
    · exact ⟨H, by rw [if_pos (.inl h1), decide_eq_true h1]; rfl, hle⟩
    by_cases h2 : ps[i].a ≥ ps[i].b
    · exact ⟨H, by rw [if_pos (.inr (.inl h2)), decide_eq_false h1, decide_eq_true h2]; rfl, hle⟩
    by_cases h3 : ps[i].b ≥ ((m + i : Nat) : Int)
    · exact ⟨H, by rw [if_pos (.inr (.inr (.inl h3))), decide_eq_false h1, decide_eq_false h2, decide_eq_true h3]; rfl, hle⟩
    rw [decide_eq_false h1, decide_eq_false h2, decide_eq_false h3]
    simp only [cond_false]
    rw [bool_ld_i hb (by omega) (by omega) (by omega)]
    cases h4 : us.getD ps[i].a.toNat false with
    | true => exact ⟨H, by rw [if_pos (.inr (.inr (.inr (.inl rfl))))]; rfl, hle⟩
    | false =>
    simp only [cond_false]
    rw [bool_ld_i hb (by omega) (by omega) (by omega)]
    cases h5 : us.getD ps[i].b.toNat false with
    | true => exact ⟨H, by rw [if_pos (.inr (.inr (.inr (.inr rfl))))]; rfl, hle⟩
    | false =>
    simp only [cond_false]
    rw [bool_put_i hb (by omega) (by omega) (by omega), bool_put_i (set_get hb) (by omega) (by omega) (by simp; omega), set_set]
    obtain ⟨H', e, l⟩ := c_sOrderOk_0 hu hp hN hNs k (i + 1) (H.set bu ⟨bcs ((us.set ps[i].a.toNat true).set ps[i].b.toNat true), .rw, 1⟩) ((us.set ps[i].a.toNat true).set ps[i].b.toNat true) (by omega) (hle.set hu) (set_get hb) (by simp [hl])
    refine ⟨H', ?_, l⟩
    rw [e, if_neg]
    · have : ((m + (i + 1) : Nat) : Int) = ((m + i : Nat) : Int) + 1 := by omega
      rw [this]
    · rintro (h | h | h | h | h)
      · exact h1 h
      · exact h2 h
      · exact h3 h
      · cases h
      · cases h
/-- spec.OrderOk -/
theorem c_sOrderOk {H : AH} {s u sp : Sl} {n : Nw} {ps : List Sp} (h : NS H s u n) (ho : n.op.length ≤ 1048576) (hp : S2 H sp ps) (hts : n.ts.length ≤ 4611686018427387904) :
    ∃ H', R (.fn F.sOrderOk) [npv n.r s u, ssc sp] H = some ⟨1, [bsc (ordB n ps)], H'⟩ ∧ Go.Abs.Le H H' := by
  obtain ⟨H1, e1, l1⟩ := c_sNetworkOk h ho
  unfold ordB
  cases hn : netB n with
  | false =>
    rw [hn] at e1
    exact ⟨H1, by rw [R_eq, e_sOrderOk, e1]; rfl, l1⟩
  | true =>
  rw [hn] at e1
  obtain ⟨b1, b2, b3⟩ := netB_small hn
  have hw : IntKind.wrap .i64 ((n.ts.length : Int) - 1) = (n.ts.length : Int) - 1 := by rw [wrap_id] <;> omega
  have hif : (if (n.ts.length : Int) - 1 > 0 then (n.ts.length : Int) - 1 else 0) = ((n.ts.length - 1 : Nat) : Int) := by split <;> omega
  by_cases hl : ps.length = n.ts.length - 1
  · have hw2 : IntKind.wrap .i64 ((n.ts.length : Int) + (ps.length : Int)) = ((n.ts.length + ps.length : Nat) : Int) := by rw [wrap_id] <;> omega
    have hle2 := l1.trans (Go.Abs.Le.app H1 [⟨bcs (List.replicate (n.ts.length + ps.length) false), .rw, 1⟩])
    obtain ⟨H3, e3, l3⟩ := c_sOrderOk_0 (H0 := H) (bu := H1.length) (N := n.ts.length + ps.length) (m := n.ts.length) l1.len hp rfl (by omega) ps.length 0 (H1 ++ [⟨bcs (List.replicate (n.ts.length + ps.length) false), .rw, 1⟩]) (List.replicate (n.ts.length + ps.length) false) (by omega) hle2 (by simp) (by simp)
    rw [List.drop_zero] at e3
    have hgd : ∀ x : Int, (List.replicate (n.ts.length + ps.length) false).getD x.toNat false = false := fun x => by
      simp only [List.getD_eq_getElem?_getD, List.getElem?_replicate]
      split <;> rfl
    have hou := orderN_U ps ((List.range n.ts.length).map fun i : Nat => (i : Int)) (List.replicate (n.ts.length + ps.length) false) (n.ts.length : Int) (by omega) (by simp) (fun x => by
      rw [hgd]
      simp only [List.mem_map, List.mem_range, and_true]
      constructor
      · rintro ⟨i, hi, rfl⟩; omega
      · rintro ⟨g1, g2⟩; exact ⟨x.toNat, by omega, by omega⟩) (fun x _ => hgd x)
    refine ⟨H3, ?_, l3⟩
    rw [decide_eq_true hl, hou, R_eq, e_sOrderOk, e1]
    simp only [Option.bind_some, one_bool, Bool.not_true, cond_false]
    have hpn : ((sp.n : Nat) : Int) = (ps.length : Int) := by rw [hp.1]
    rw [h.ts.1, hw, hif, hpn, hw2]
    have hnn : (((ps.length : Nat) : Int) != ((n.ts.length - 1 : Nat) : Int)) = false := by rw [hl]; exact ne_i _
    rw [hnn, cond_false, mk_bools (by omega)]
    simp only [Option.bind_some]
    have e3 : R (.loop F.sOrderOk 0) [isc (n.ts.length : Int), ssc ⟨H1.length, 0, n.ts.length + ps.length, n.ts.length + ps.length, true⟩, ssc sp, isc (ps.length : Int), isc 0] (H1 ++ [⟨bcs (List.replicate (n.ts.length + ps.length) false), .rw, 1⟩]) = _ := e3
    rw [e3]
    have e0 : ((n.ts.length + 0 : Nat) : Int) = (n.ts.length : Int) := by simp
    rw [e0]
    cases orderU (List.replicate (n.ts.length + ps.length) false) n.ts.length ps <;> rfl
  · refine ⟨H1, ?_, l1⟩
    have hne : (((ps.length : Nat) : Int) != ((n.ts.length - 1 : Nat) : Int)) = true := bne_iff_ne.2 (by omega)
    rw [R_eq, e_sOrderOk, e1]
    simp only [Option.bind_some, one_bool, Bool.not_true, cond_false]
    rw [h.ts.1, hw, hif, hp.1, hne, decide_eq_false hl]
    rfl
end Go.Abs
/- Contracts: labels of a network, slices. -/
namespace Go.Abs
set_option linter.all false
set_option maxRecDepth 10000

/-- The sizes of a valid network's labels. -/
theorem c_dims {H : AH} {s u : Sl} {n : Nw} (h : NS H s u n) (hn : netB n = true) :
    ∃ D, R (.fn F.idimsOf) [ssc s] H = some ⟨1, [.agg (ics D), bsc true], H⟩ ∧ D.length = 100 ∧ ∀ y : Int, 0 ≤ y → y ≤ 99 → D.getD y.toNat 0 = dimF n.ts y := by
  simp only [netB, Bool.and_eq_true, decide_eq_true_eq] at hn
  obtain ⟨⟨⟨h1, h2⟩, h3⟩, h4⟩ := hn
  have hm : ∀ t ∈ n.ts, tensorB n.r t = true := cons_mem h3
  have hD0 : Dm (List.replicate 100 0) [] := ⟨by simp, fun y _ _ => by
    simp only [List.getD_eq_getElem?_getD, List.getElem?_replicate]
    split <;> rfl⟩
  rcases dimTs_spec n.ts [] _ hD0 (fun _ h => by simp at h) hm with ⟨k1, D, k2, k3⟩ | ⟨k1, k2⟩
  · rcases c_idimsOf h.ts h2 fun t ht => (tensor_facts (hm t ht)).1 with ⟨d, e1, e2, e3⟩ | ⟨e1, _⟩
    · rw [k2] at e1; cases e1
      rw [List.nil_append] at k3
      exact ⟨D, e3, e2, k3.get⟩
    · rw [k2] at e1; cases e1
  · rw [h3] at k1; cases k1
theorem dims_take {D : List Int} (hD : D.length = 100) : ((setAll (zc P Y.t100_int) 0 (ics D)).drop 0).take 100 = ics D := by
  have hdl : (ics D).length = 100 := by simp [hD]
  have hz : (zc P Y.t100_int).length = 100 := by rw [zc_dims]; simp
  have e6 : setAll (zc P Y.t100_int) 0 (ics D) = ics D := setAll_full (by rw [hdl, hz])
  rw [e6, List.drop_zero, List.take_of_length_le (by omega)]
theorem t_dims {D : List Int} (hD : D.length = 100) {α : Type} (K : List Sc → Option α) :
    ((lenP [.agg (ics D), bsc true] 2).bind fun _ => (nthP [.agg (ics D), bsc true] 0).bind fun p2 => p2.agg?.bind fun l3 => cond (decide (l3.length = 100)) ((nthP [.agg (ics D), bsc true] 1).bind fun p4 => p4.sc?.bind fun c5 => (boolAt [c5] 0).bind fun b6 =>
      cond (Nat.beq l3.length 100) (cond (decide (0 + l3.length ≤ (zc P Y.t100_int).length)) (cond (decide (100 ≤ (setAll (zc P Y.t100_int) 0 l3).length)) (K l3) none) none) none) none) = K (ics D) := by
  have hdl : (ics D).length = 100 := by simp [hD]
  have hz : (zc P Y.t100_int).length = 100 := by rw [zc_dims]; simp
  have e6 : setAll (zc P Y.t100_int) 0 (ics D) = ics D := setAll_full (by rw [hdl, hz])
  simp only [Option.bind_some, lenP, nthP, PV.agg?, PV.sc?, boolAt, List.length_cons, List.length_nil, if_true, List.getElem?_cons_zero, List.getElem?_cons_succ, hdl, decide_true, cond_true, hz, Nat.zero_add, Nat.le_refl, e6]
  rfl

/-- The labels of tensors, ascending. -/
def labsF (ts : List Tn) : List Int := colF (fun _ (i : Nat) => if dimF ts (i : Int) > 0 then some (i : Int) else none) (List.range 100) 0
theorem labsF_len (ts : List Tn) : (labsF ts).length ≤ 100 := by
  have := colF_len (g := fun _ (i : Nat) => if dimF ts (i : Int) > 0 then some (i : Int) else none) (l := List.range 100) (i := 0)
  simpa [labsF] using this
theorem labsF_mem {ts : List Tn} {x : Int} (h : x ∈ labsF ts) : 0 ≤ x ∧ x ≤ 99 ∧ dimF ts x > 0 := by
  obtain ⟨j, a, ha, e⟩ := colF_mem h
  have := List.mem_range.1 ha
  split at e
  · rename_i hd; cases e; exact ⟨by omega, by omega, hd⟩
  · cases e
/-- spec.l12Labels -/
theorem c_sl12Labels {H : AH} {s : Sl} {ts : List Tn} (h : T3 H s ts) (hm : ts.length ≤ 1048576) (ht : ∀ t ∈ ts, t.L.length = t.D.length ∧ t.L.length ≤ 1048576) :
    ∃ s' H', R (.fn F.sl12Labels) [ssc s] H = some ⟨1, [ssc s'], H'⟩ ∧ Own H.length H' s' (labsF ts) ∧ Go.Abs.Le H H' := by
  have cl := collect (l := List.range 100) (H0 := H) (F := fun i u Hc => R (.loop F.sl12Labels 0) [ssc s, ssc u, isc (i : Int)] Hc) (fin := fun u Hc => some ⟨2, [ssc u], Hc⟩) (fun _ (i : Nat) => if dimF ts (i : Int) > 0 then some (i : Int) else none)
    (fun u Hc => by
      show R (.loop F.sl12Labels 0) [ssc s, ssc u, isc (((List.range 100).length : Nat) : Int)] Hc = _
      rw [List.length_range, R_eq, e_sl12Labels_0]; rfl)
    (fun i hi u Hc acc hle ho ha => by
      simp only [List.length_range] at hi ha
      have hd : decide ((i : Int) ≤ 99) = true := decide_eq_true (by omega)
      have hdim := c_sl12Dim (h.le hle) hm ht (i : Int)
      rw [List.getElem_range]
      by_cases h0 : dimF ts (i : Int) > 0
      · obtain ⟨s', H', e, o, l⟩ := push_le hle ho (by omega) (i : Int)
        refine ⟨s', H', ?_, by rw [if_pos h0]; simpa using o, l⟩
        rw [R_eq, e_sl12Labels_0, hd, cond_true, hdim]
        simp only [Option.bind_some, one_int, decide_eq_true h0, cond_true]
        rw [e, w1 (show i < 100 by omega) (by omega)]
      · refine ⟨u, Hc, ?_, by rw [if_neg h0]; simpa using ho, hle⟩
        rw [R_eq, e_sl12Labels_0, hd, cond_true, hdim]
        simp only [Option.bind_some, one_int, decide_eq_false h0, cond_false]
        rw [w1 (show i < 100 by omega) (by omega)])
    (s0 := ⟨H.length, 0, 0, 0, true⟩) (H := H ++ [⟨[], .rw, 1⟩]) (Go.Abs.Le.app _ _) (Own.nil _ _ _)
  obtain ⟨s', H', e, o, l⟩ := cl
  refine ⟨s', H', ?_, o, l⟩
  have e : R (.loop F.sl12Labels 0) [ssc s, ssc ⟨H.length, 0, 0, 0, true⟩, isc 0] (H ++ [⟨[], .rw, 1⟩]) = _ := e
  rw [R_eq, e_sl12Labels, newB_one]
  simp only [Option.bind_some]
  rw [e]
  rfl
/-- impl.occurring -/
theorem c_ioccurring {H : AH} {D : List Int} {ts : List Tn} (hD : D.length = 100) (hd : ∀ y : Int, 0 ≤ y → y ≤ 99 → D.getD y.toNat 0 = dimF ts y) (hge : ∀ y : Int, 0 ≤ dimF ts y) :
    ∃ s' H', R (.fn F.ioccurring) [.agg (ics D)] H = some ⟨1, [ssc s'], H'⟩ ∧ Own H.length H' s' (labsF ts) ∧ Go.Abs.Le H H' := by
  have hdl : (ics D).length = 100 := by simp [hD]
  have cl := collect (l := List.range 100) (H0 := H) (F := fun i u Hc => R (.loop F.ioccurring 0) [ssc u, .agg (ics D), isc (i : Int)] Hc) (fin := fun u Hc => some ⟨2, [ssc u], Hc⟩) (fun _ (i : Nat) => if dimF ts (i : Int) > 0 then some (i : Int) else none)
    (fun u Hc => by
      show R (.loop F.ioccurring 0) [ssc u, .agg (ics D), isc (((List.range 100).length : Nat) : Int)] Hc = _
      rw [List.length_range, R_eq, e_ioccurring_0]; rfl)
    (fun i hi u Hc acc hle ho ha => by
      simp only [List.length_range] at hi ha
      have hlt : decide ((i : Int) < 100) = true := decide_eq_true (by omega)
      have hdi := hd (i : Int) (by omega) (by omega)
      rw [Int.toNat_natCast] at hdi
      have hge := hge (i : Int)
      rw [List.getElem_range]
      by_cases h0 : dimF ts (i : Int) > 0
      · obtain ⟨s', H', e, o, l⟩ := push_le hle ho (by omega) (i : Int)
        refine ⟨s', H', ?_, by rw [if_pos h0]; simpa using o, l⟩
        have hb : (dimF ts (i : Int) != 0) = true := bne_iff_ne.2 (by omega)
        rw [R_eq, e_ioccurring_0, hlt, cond_true, ixA_100 (by omega) (by omega), Int.toNat_natCast]
        simp only [Option.bind_some, int_at (show i < D.length by omega), hdi, hb, cond_true]
        rw [e, w1 (show i < 100 by omega) (by omega)]
      · refine ⟨u, Hc, ?_, by rw [if_neg h0]; simpa using ho, hle⟩
        have hz : dimF ts (i : Int) = 0 := by omega
        rw [R_eq, e_ioccurring_0, hlt, cond_true, ixA_100 (by omega) (by omega), Int.toNat_natCast]
        simp only [Option.bind_some, int_at (show i < D.length by omega), hdi, hz, ne_i, cond_false]
        rw [w1 (show i < 100 by omega) (by omega)])
    (s0 := ⟨0, 0, 0, 0, true⟩) (H := H) (Go.Abs.Le.refl _) (Own.nil _ _ _)
  obtain ⟨s', H', e, o, l⟩ := cl
  refine ⟨s', H', ?_, o, l⟩
  have e : R (.loop F.ioccurring 0) [ssc ⟨0, 0, 0, 0, true⟩, .agg (ics D), isc 0] H = _ := e
  have e7 : (List.take 100 (List.drop 0 (ics D))) = ics D := by rw [List.drop_zero, List.take_of_length_le (by omega)]
  rw [R_eq, e_ioccurring, decide_eq_true (show 100 ≤ (ics D).length by omega), cond_true, e7, e]
  rfl
theorem dimF_ge {r : Rg} : ∀ {ts : List Tn}, (∀ t ∈ ts, tensorB r t = true) → ∀ y : Int, 0 ≤ dimF ts y := fun {ts} h y => (dimF_app (t := ⟨[], [], []⟩) (x := y) h).1
/-- impl.LabelsOf, of a valid network -/
theorem c_iLabelsOf {H : AH} {s u : Sl} {n : Nw} (h : NS H s u n) (hn : netB n = true) : ∃ s' H', R (.fn F.iLabelsOf) [npv n.r s u] H = some ⟨1, [ssc s'], H'⟩ ∧ Own H.length H' s' (labsF n.ts) ∧ Go.Abs.Le H H' := by
  obtain ⟨b1, b2, b3⟩ := netB_small hn
  have hm : ∀ t ∈ n.ts, tensorB n.r t = true := by
    have := hn
    simp only [netB, Bool.and_eq_true, decide_eq_true_eq] at this
    exact cons_mem this.1.2
  obtain ⟨H1, e1, l1⟩ := c_iNetworkOk h (by omega)
  rw [hn] at e1
  obtain ⟨D, e2, hD, hd⟩ := c_dims (h.le l1) hn
  obtain ⟨s', H', e3, o3, l3⟩ := c_ioccurring (H := H1) hD hd (dimF_ge hm)
  refine ⟨s', H', ?_, o3.low l1.len, l1.trans l3⟩
  rw [R_eq, e_iLabelsOf, e1]
  simp only [Option.bind_some, one_bool, Bool.not_true, cond_false]
  rw [e2]
  simp only [Option.bind_some]
  rw [t_dims hD, dims_take hD, e3]
  rfl
/-- The labels that are not open. -/
def closF (n : Nw) : List Int := colF (fun _ x => if (n.op.any fun y => x == y) then none else some x) (labsF n.ts) 0
theorem closF_len (n : Nw) : (closF n).length ≤ 100 := Nat.le_trans colF_len (labsF_len _)
theorem closF_mem {n : Nw} {x : Int} (h : x ∈ closF n) : x ∈ labsF n.ts := by
  obtain ⟨j, a, ha, e⟩ := colF_mem h
  split at e
  · cases e
  · cases e; exact ha
/-- impl.ClosedLabels -/
theorem c_iClosedLabels {H : AH} {s u : Sl} {n : Nw} (h : NS H s u n) (hn : netB n = true) : ∃ s' H', R (.fn F.iClosedLabels) [npv n.r s u] H = some ⟨1, [ssc s'], H'⟩ ∧ Own H.length H' s' (closF n) ∧ Go.Abs.Le H H' := by
  obtain ⟨b1, b2, b3⟩ := netB_small hn
  obtain ⟨s4, H1, e1, o1, l1⟩ := c_iLabelsOf h hn
  have hll := labsF_len n.ts
  have cl := collect (l := labsF n.ts) (H0 := H1) (F := fun i c Hc => R (.loop F.iClosedLabels 0) [ssc c, ssc s4, isc ((labsF n.ts).length : Int), isc (i : Int), npv n.r s u] Hc) (fin := fun c Hc => some ⟨2, [ssc c], Hc⟩) (fun _ x => if (n.op.any fun y => x == y) then none else some x)
    (fun c Hc => by rw [R_eq, e_iClosedLabels_0, lt_self]; rfl)
    (fun i hi c Hc acc hle ho ha => by
      have hint := c_ihasInt (h.op.le (l1.trans hle)) (by omega) (labsF n.ts)[i]
      by_cases h0 : (n.op.any fun y => (labsF n.ts)[i] == y) = true
      · refine ⟨c, Hc, ?_, by rw [if_pos h0]; simpa using ho, hle⟩
        rw [R_eq, e_iClosedLabels_0, lt_true hi, w1 hi (by omega), cond_true, (o1.is.le hle).ldk hi, hint]
        simp only [Option.bind_some, one_bool, h0, Bool.not_true, cond_false]
      · obtain ⟨s', H', e, o, l⟩ := push_le hle ho (by omega) (labsF n.ts)[i]
        refine ⟨s', H', ?_, by rw [if_neg h0]; simpa using o, l⟩
        rw [R_eq, e_iClosedLabels_0, lt_true hi, w1 hi (by omega), cond_true, (o1.is.le hle).ldk hi, hint]
        simp only [Option.bind_some, one_bool, Bool.eq_false_iff.2 h0, Bool.not_false, cond_true]
        rw [e])
    (s0 := ⟨0, 0, 0, 0, true⟩) (H := H1) (Go.Abs.Le.refl _) (Own.nil _ _ _)
  obtain ⟨s', H', e, o, l⟩ := cl
  refine ⟨s', H', ?_, o.low l1.len, l1.trans l⟩
  have e : R (.loop F.iClosedLabels 0) [ssc ⟨0, 0, 0, 0, true⟩, ssc s4, isc ((labsF n.ts).length : Int), isc 0, npv n.r s u] H1 = _ := e
  rw [R_eq, e_iClosedLabels, e1]
  simp only [Option.bind_some, one_sl]
  rw [o1.n, e]
  rfl
/-- spec.l21Closed -/
theorem c_sl21Closed {H : AH} {s u : Sl} {n : Nw} (h : NS H s u n) (hn : netB n = true) : ∃ s' H', R (.fn F.sl21Closed) [npv n.r s u] H = some ⟨1, [ssc s'], H'⟩ ∧ Own H.length H' s' (closF n) ∧ Go.Abs.Le H H' := by
  obtain ⟨b1, b2, b3⟩ := netB_small hn
  have hm : ∀ t ∈ n.ts, tensorB n.r t = true := by
    have := hn
    simp only [netB, Bool.and_eq_true, decide_eq_true_eq] at this
    exact cons_mem this.1.2
  have hle0 := Go.Abs.Le.app H [⟨[], .rw, 1⟩]
  obtain ⟨s4, H1, e1, o1, l1⟩ := c_sl12Labels (h.ts.le hle0) (by omega) (fun t ht => ⟨(tensor_dims (hm t ht)).1, by have := b3 t ht; omega⟩)
  have hll := labsF_len n.ts
  have hle01 := hle0.trans l1
  have cl := collect (l := labsF n.ts) (H0 := H1) (F := fun i c Hc => R (.loop F.sl21Closed 0) [ssc c, ssc s4, isc ((labsF n.ts).length : Int), isc (i : Int), npv n.r s u] Hc) (fin := fun c Hc => some ⟨2, [ssc c], Hc⟩) (fun _ x => if (n.op.any fun y => x == y) then none else some x)
    (fun c Hc => by rw [R_eq, e_sl21Closed_0, lt_self]; rfl)
    (fun i hi c Hc acc hle ho ha => by
      have hint := c_sl05Find (h.op.le (hle01.trans hle)) (by omega) (labsF n.ts)[i]
      have hfa := find_any n.op (labsF n.ts)[i]
      have hdd : decide (findF n.op (labsF n.ts)[i] 0 < 0) = !(n.op.any fun y => (labsF n.ts)[i] == y) := by
        rw [← hfa]
        by_cases hh : findF n.op (labsF n.ts)[i] 0 < 0
        · rw [decide_eq_true hh, decide_eq_false (by omega)]; rfl
        · rw [decide_eq_false hh, decide_eq_true (by omega)]; rfl
      by_cases h0 : (n.op.any fun y => (labsF n.ts)[i] == y) = true
      · refine ⟨c, Hc, ?_, by rw [if_pos h0]; simpa using ho, hle⟩
        rw [R_eq, e_sl21Closed_0, lt_true hi, w1 hi (by omega), cond_true, (o1.is.le hle).ldk hi, hint]
        simp only [Option.bind_some, one_int, hdd, h0, Bool.not_true, cond_false]
      · obtain ⟨s', H', e, o, l⟩ := push_le hle ho (by omega) (labsF n.ts)[i]
        refine ⟨s', H', ?_, by rw [if_neg h0]; simpa using o, l⟩
        rw [R_eq, e_sl21Closed_0, lt_true hi, w1 hi (by omega), cond_true, (o1.is.le hle).ldk hi, hint]
        simp only [Option.bind_some, one_int, hdd, Bool.eq_false_iff.2 h0, Bool.not_false, cond_true]
        rw [e])
    (s0 := ⟨H.length, 0, 0, 0, true⟩) (H := H1) (Go.Abs.Le.refl _) (Own.nil _ _ _)
  obtain ⟨s', H', e, o, l⟩ := cl
  refine ⟨s', H', ?_, o.low hle01.len, hle01.trans l⟩
  have e : R (.loop F.sl21Closed 0) [ssc ⟨H.length, 0, 0, 0, true⟩, ssc s4, isc ((labsF n.ts).length : Int), isc 0, npv n.r s u] H1 = _ := e
  rw [R_eq, e_sl21Closed, newB_one]
  simp only [Option.bind_some]
  rw [e1]
  simp only [Option.bind_some, one_sl]
  rw [o1.n, e]
  rfl

/-- Are labels to be sliced? -/
def slG (n : Nw) : List Int → List Int → Bool
  | _, [] => true
  | pre, x :: l => ((closF n).any fun y => x == y) && !(pre.any fun y => x == y) && slG n (pre ++ [x]) l
def sliceF (n : Nw) (l : List Int) : Int := if netB n && decide (l.length ≤ 4) && slG n [] l then prd (l.map (dimF n.ts)) else -1
theorem slG_mem {n : Nw} : ∀ {l pre : List Int}, slG n pre l = true → ∀ x ∈ l, x ∈ closF n
  | [], _, _, x, hx => by simp at hx
  | y :: l, pre, h, x, hx => by
    simp only [slG, Bool.and_eq_true] at h
    rcases List.mem_cons.1 hx with rfl | hx
    · obtain ⟨z, hz, e⟩ := List.any_eq_true.1 h.1.1
      have : x = z := by simpa using e
      rw [this]; exact hz
    · exact slG_mem h.2 x hx
theorem dimF_le {r : Rg} : ∀ {ts : List Tn}, (∀ t ∈ ts, tensorB r t = true) → ∀ y : Int, dimF ts y ≤ 8
  | [], _, y => by simp [dimF]
  | t :: ts, h, y => by
    unfold dimF
    split
    · have hf := (tensor_facts (h t List.mem_cons_self)).2.2
      simp only [List.getD_eq_getElem?_getD]
      cases hg : t.D[(findF t.L y 0).toNat]? with
      | none => simp
      | some d => exact (hf d (List.mem_of_getElem? hg)).2
    · exact dimF_le (fun u hu => h u (List.mem_cons_of_mem _ hu)) y
theorem slice_dims {n : Nw} {l : List Int} (hn : netB n = true) (hl : l.length ≤ 4) (hg : slG n [] l = true) : DimsOk (l.map (dimF n.ts)) := by
  have hm : ∀ t ∈ n.ts, tensorB n.r t = true := by
    simp only [netB, Bool.and_eq_true, decide_eq_true_eq] at hn
    exact cons_mem hn.1.2
  have hd : ∀ d ∈ l.map (dimF n.ts), 1 ≤ d ∧ d ≤ 8 := fun d hd => by
    obtain ⟨x, hx, rfl⟩ := List.mem_map.1 hd
    have := (labsF_mem (closF_mem (slG_mem hg x hx))).2.2
    exact ⟨by omega, dimF_le hm x⟩
  refine ⟨by simp; omega, hd, ?_⟩
  have key : ∀ l : List Int, (∀ d ∈ l, 1 ≤ d ∧ d ≤ 8) → 0 ≤ prd l ∧ prd l ≤ ((8 ^ l.length : Nat) : Int) := by
    intro l
    induction l with
    | nil => intro _; simp [prd]
    | cons d l ih =>
      intro h
      have h1 := h d List.mem_cons_self
      obtain ⟨h2, h3⟩ := ih fun x hx => h x (List.mem_cons_of_mem _ hx)
      simp only [prd, List.length_cons]
      refine ⟨Int.mul_nonneg (by omega) h2, ?_⟩
      have : d * prd l ≤ 8 * ((8 ^ l.length : Nat) : Int) := Int.mul_le_mul h1.2 h3 h2 (by omega)
      rw [Nat.pow_succ, Nat.mul_comm]
      simpa using this
  have h1 := (key _ hd).2
  have h2 : 8 ^ (l.map (dimF n.ts)).length ≤ 8 ^ 4 := Nat.pow_le_pow_right (by omega) (by simpa using hl)
  omega
end Go.Abs
/- Contracts: slice counts, jobs and sessions. -/
namespace Go.Abs
set_option linter.all false
set_option maxRecDepth 10000

theorem prodC_prd (lim : Int) : ∀ (l : List Int) (a : Int), 1 ≤ a → (∀ d ∈ l, 1 ≤ d) → a * prd l ≤ lim → prodC lim a l = a * prd l
  | [], a, _, _, _ => by simp [prodC, prd]
  | d :: l, a, ha, hd, hl => by
    have h1 := hd d List.mem_cons_self
    have h2 := prd_pos (a := l) fun x hx => hd x (List.mem_cons_of_mem _ hx)
    have h3 : 1 * 1 ≤ a * d := Int.mul_le_mul ha h1 (by omega) (by omega)
    have e : a * prd (d :: l) = a * d * prd l := by simp only [prd]; rw [Int.mul_assoc]
    rw [e] at hl ⊢
    have h4 : a * d * 1 ≤ a * d * prd l := Int.mul_le_mul (Int.le_refl _) h2 (by omega) (by omega)
    simp only [prodC]
    rw [if_neg (by omega)]
    exact prodC_prd lim l (a * d) (by omega) (fun x hx => hd x (List.mem_cons_of_mem _ hx)) hl
/-- spec.l05Product, of a valid tensor's sizes, with the larger limit -/
theorem c_sl05Product_big {H : AH} {s : Sl} {l : List Int} (h : IS H s l) (hd : DimsOk l) : R (.fn F.sl05Product) [ssc s, isc 65536] H = some ⟨1, [isc (prd l)], H⟩ := by
  have hm := hd.1
  rw [R_eq, e_sl05Product, h.1]
  have := loopS (F := fun (a : Int) (i : Nat) => R (.loop F.sl05Product 0) [isc 65536, isc a, ssc s, isc (l.length : Int), isc (i : Int)] H) (l := l) (fun a _ => 0 ≤ a ∧ a ≤ 65537) (fun a l _ => some ⟨2, [isc (prodC 65536 a l)], H⟩)
    (fun a _ => by rw [R_eq, e_sl05Product_0, lt_self]; rfl) (fun a i hi r ha ih => by
      rw [R_eq, e_sl05Product_0, h.ldk hi, lt_true hi, w1 hi (by omega)]
      have hdi := hd.2.1 l[i] (List.getElem_mem hi)
      have h1 : 0 ≤ a * l[i] := Int.mul_nonneg ha.1 (by omega)
      have h2 : a * l[i] ≤ 65537 * 8 := Int.mul_le_mul ha.2 hdi.2 (by omega) (by omega)
      have e1 : IntKind.wrap .i64 (a * l[i]) = a * l[i] := by rw [wrap_id] <;> omega
      have e2 : IntKind.wrap .i64 ((65536 : Int) + 1) = 65537 := by rw [wrap_id] <;> omega
      simp only [cond_true, e1, e2, prodC]
      exact ih _ (by split <;> omega)) 1 (by omega)
  have e := prodC_prd 65536 l 1 (by omega) hd.ge (by have := hd.2.2; omega)
  rw [Int.one_mul] at e
  rw [show ((0 : Int)) = ((0 : Nat) : Int) from rfl, this, e]
  rfl

theorem c_iSliceCount_0 {H : AH} {v c : Sl} {n : Nw} {l : List Int} (hv : IS H v l) (hc : IS H c (closF n)) (hl : l.length ≤ 4) :
    R (.loop F.iSliceCount 0) [ssc v, ssc c, ssc v, isc (l.length : Int), isc 0] H = if slG n [] l then some ⟨2, [], H⟩ else some ⟨1, [isc (-1)], H⟩ := by
  have hcl := closF_len n
  have := loopG (F := fun i : Nat => R (.loop F.iSliceCount 0) [ssc v, ssc c, ssc v, isc (l.length : Int), isc (i : Int)] H) (l := l) (fun r i => if slG n (l.take i) r then some ⟨2, [], H⟩ else some ⟨1, [isc (-1)], H⟩)
    (by rw [R_eq, e_iSliceCount_0, lt_self]; rfl) (fun i hi r hr => by
      rw [R_eq, e_iSliceCount_0, hv.ldk hi, lt_true hi, w1 hi (by omega)]
      unfold slG
      simp only [cond_true]
      rw [c_ihasInt hc (by omega)]
      simp only [Option.bind_some, one_bool]
      cases hA : (closF n).any fun x => l[i] == x with
      | false => simp
      | true =>
        simp only [Bool.not_true, cond_false, Bool.true_and]
        rw [slB_take (by have := hv.c; rw [hv.n] at this; omega)]
        simp only [Option.bind_some]
        rw [c_ihasInt (hv.take (Nat.le_of_lt hi)) (by simp; omega)]
        simp only [Option.bind_some, one_bool]
        cases hB : (l.take i).any fun x => l[i] == x with
        | true => simp
        | false =>
          simp only [Bool.not_false, cond_false, Bool.true_and]
          rw [← take_snoc hi]
          exact hr)
  exact this
theorem c_sSliceCount_0 {H : AH} {v c : Sl} {n : Nw} {l : List Int} (hv : IS H v l) (hc : IS H c (closF n)) (hl : l.length ≤ 4) :
    R (.loop F.sSliceCount 0) [ssc v, ssc c, ssc v, isc (l.length : Int), isc 0] H = if slG n [] l then some ⟨2, [], H⟩ else some ⟨1, [isc (-1)], H⟩ := by
  have hcl := closF_len n
  have hlt0 : ∀ (m : List Int) (x : Int), decide (findF m x 0 < 0) = !(m.any fun y => x == y) := fun m x => by
    rw [← find_any m x]
    by_cases hh : findF m x 0 < 0
    · rw [decide_eq_true hh, decide_eq_false (by omega)]; rfl
    · rw [decide_eq_false hh, decide_eq_true (by omega)]; rfl
  have := loopG (F := fun i : Nat => R (.loop F.sSliceCount 0) [ssc v, ssc c, ssc v, isc (l.length : Int), isc (i : Int)] H) (l := l) (fun r i => if slG n (l.take i) r then some ⟨2, [], H⟩ else some ⟨1, [isc (-1)], H⟩)
    (by rw [R_eq, e_sSliceCount_0, lt_self]; rfl) (fun i hi r hr => by
      rw [R_eq, e_sSliceCount_0, hv.ldk hi, lt_true hi, w1 hi (by omega)]
      unfold slG
      simp only [cond_true]
      rw [c_sl05Find hc (by omega)]
      simp only [Option.bind_some, one_int, hlt0]
      cases hA : (closF n).any fun x => l[i] == x with
      | false => simp
      | true =>
        simp only [Bool.not_true, cond_false, Bool.true_and]
        rw [slB_take (by have := hv.c; rw [hv.n] at this; omega)]
        simp only [Option.bind_some]
        rw [c_sl05Find (hv.take (Nat.le_of_lt hi)) (by simp; omega)]
        simp only [Option.bind_some, one_int, find_any]
        cases hB : (l.take i).any fun x => l[i] == x with
        | true => simp
        | false =>
          simp only [Bool.not_false, cond_false, Bool.true_and]
          rw [← take_snoc hi]
          exact hr)
  exact this

theorem net_mem {n : Nw} (hn : netB n = true) : ∀ t ∈ n.ts, tensorB n.r t = true := by
  simp only [netB, Bool.and_eq_true, decide_eq_true_eq] at hn
  exact cons_mem hn.1.2
/-- impl.SliceCount -/
theorem c_iSliceCount {H : AH} {s u v : Sl} {n : Nw} {l : List Int} (h : NS H s u n) (ho : n.op.length ≤ 1048576) (hv : IS H v l) :
    ∃ H', R (.fn F.iSliceCount) [npv n.r s u, ssc v] H = some ⟨1, [isc (sliceF n l)], H'⟩ ∧ Go.Abs.Le H H' := by
  obtain ⟨H1, e1, l1⟩ := c_iNetworkOk h ho
  cases hn : netB n with
  | false =>
    rw [hn] at e1
    refine ⟨H1, ?_, l1⟩
    have : sliceF n l = -1 := by unfold sliceF; simp [hn]
    rw [R_eq, e_iSliceCount, e1, this]; rfl
  | true =>
    rw [hn] at e1
    by_cases hl : l.length ≤ 4
    · have h4 : decide ((v.n : Int) > 4) = false := decide_eq_false (by rw [hv.n]; omega)
      obtain ⟨c, H2, e2, o2, l2⟩ := c_iClosedLabels (h.le l1) hn
      have l12 := l1.trans l2
      have e3 := c_iSliceCount_0 (n := n) (hv.le l12) o2.is hl
      by_cases hg : slG n [] l = true
      · rw [if_pos hg] at e3
        obtain ⟨D, e4, hD, hd⟩ := c_dims (h.le l12) hn
        have hx : ∀ x ∈ l, 0 ≤ x ∧ x ≤ 99 := fun x hx => by have := labsF_mem (closF_mem (slG_mem hg x hx)); omega
        obtain ⟨a, b, H3, e5, l3, o5, o6⟩ := c_iaxesOf hD (hv.le l12) (by omega) hx
        have hmap : (l.map fun x => D.getD x.toNat 0) = l.map (dimF n.ts) := List.map_congr_left fun x hxm => hd x (hx x hxm).1 (hx x hxm).2
        rw [hmap] at o6
        have hok := slice_dims hn hl hg
        have e7 := c_iproductOf o6 (by simp; omega) hok.2.1
        rw [prodI_eq, Int.one_mul] at e7
        have hp := hok.2.2
        refine ⟨H3, ?_, l12.trans l3⟩
        have : sliceF n l = prd (l.map (dimF n.ts)) := by unfold sliceF; simp [hn, hg, hl]
        rw [R_eq, e_iSliceCount, e1, this]
        simp only [Option.bind_some, one_bool, Bool.not_true, cond_false, h4]
        rw [e2]
        simp only [Option.bind_some, one_sl]
        rw [hv.n, e3]
        simp only [Option.bind_some, Nat.beq, cond_true, cond_false]
        rw [e4]
        simp only [Option.bind_some]
        rw [t_dims hD, dims_take hD, e5]
        simp only [Option.bind_some, o_sss]
        rw [e7]
        simp only [Option.bind_some, one_int]
        rw [decide_eq_false (by omega)]
        rfl
      · rw [if_neg hg] at e3
        refine ⟨H2, ?_, l12⟩
        have : sliceF n l = -1 := by unfold sliceF; simp [hg]
        rw [R_eq, e_iSliceCount, e1, this]
        simp only [Option.bind_some, one_bool, Bool.not_true, cond_false, h4]
        rw [e2]
        simp only [Option.bind_some, one_sl]
        rw [hv.n, e3]
        rfl
    · have h4 : decide ((v.n : Int) > 4) = true := decide_eq_true (by rw [hv.n]; omega)
      refine ⟨H1, ?_, l1⟩
      have : sliceF n l = -1 := by unfold sliceF; simp [hl]
      rw [R_eq, e_iSliceCount, e1, this]
      simp only [Option.bind_some, one_bool, Bool.not_true, cond_false, h4, cond_true]
/-- spec.SliceCount -/
theorem c_sSliceCount {H : AH} {s u v : Sl} {n : Nw} {l : List Int} (h : NS H s u n) (ho : n.op.length ≤ 1048576) (hv : IS H v l) :
    ∃ H', R (.fn F.sSliceCount) [npv n.r s u, ssc v] H = some ⟨1, [isc (sliceF n l)], H'⟩ ∧ Go.Abs.Le H H' := by
  obtain ⟨H1, e1, l1⟩ := c_sNetworkOk h ho
  cases hn : netB n with
  | false =>
    rw [hn] at e1
    refine ⟨H1, ?_, l1⟩
    have : sliceF n l = -1 := by unfold sliceF; simp [hn]
    rw [R_eq, e_sSliceCount, e1, this]; rfl
  | true =>
    rw [hn] at e1
    obtain ⟨b1, b2, b3⟩ := netB_small hn
    by_cases hl : l.length ≤ 4
    · have h4 : decide ((v.n : Int) > 4) = false := decide_eq_false (by rw [hv.n]; omega)
      obtain ⟨c, H2, e2, o2, l2⟩ := c_sl21Closed (h.le l1) hn
      have l12 := l1.trans l2
      have e3 := c_sSliceCount_0 (n := n) (hv.le l12) o2.is hl
      by_cases hg : slG n [] l = true
      · rw [if_pos hg] at e3
        have hts : TsOk n.ts := ⟨by omega, fun t ht => ⟨(tensor_dims (net_mem hn t ht)).1, by have := b3 t ht; omega⟩⟩
        obtain ⟨b, H3, e5, l3, o6⟩ := c_sl12Dims (h.ts.le l12) hts (hv.le l12) (by omega)
        have hok := slice_dims hn hl hg
        have e7 := c_sl05Product_big o6.is hok
        refine ⟨H3, ?_, l12.trans l3⟩
        have : sliceF n l = prd (l.map (dimF n.ts)) := by unfold sliceF; simp [hn, hg, hl]
        rw [R_eq, e_sSliceCount, e1, this]
        simp only [Option.bind_some, one_bool, Bool.not_true, cond_false, h4]
        rw [e2]
        simp only [Option.bind_some, one_sl]
        rw [hv.n, e3]
        simp only [Option.bind_some, Nat.beq, cond_true, cond_false]
        rw [e5]
        simp only [Option.bind_some, one_sl]
        rw [e7]
        simp only [Option.bind_some, one_int]
      · rw [if_neg hg] at e3
        refine ⟨H2, ?_, l12⟩
        have : sliceF n l = -1 := by unfold sliceF; simp [hg]
        rw [R_eq, e_sSliceCount, e1, this]
        simp only [Option.bind_some, one_bool, Bool.not_true, cond_false, h4]
        rw [e2]
        simp only [Option.bind_some, one_sl]
        rw [hv.n, e3]
        rfl
    · have h4 : decide ((v.n : Int) > 4) = true := decide_eq_true (by rw [hv.n]; omega)
      refine ⟨H1, ?_, l1⟩
      have : sliceF n l = -1 := by unfold sliceF; simp [hl]
      rw [R_eq, e_sSliceCount, e1, this]
      simp only [Option.bind_some, one_bool, Bool.not_true, cond_false, h4, cond_true]

/-- impl.equalInts -/
theorem c_iequalInts {H : AH} {a b : Sl} {l m : List Int} (ha : IS H a l) (hb : IS H b m) (hl : l.length ≤ 1048576) : R (.fn F.iequalInts) [ssc a, ssc b] H = some ⟨1, [bsc (l == m)], H⟩ := by
  rw [R_eq, e_iequalInts, ha.n, hb.n]
  by_cases he : l.length = m.length
  · rw [he, ne_i]
    simp only [cond_false]
    have := loopG (F := fun i : Nat => R (.loop F.iequalInts 0) [ssc a, ssc b, isc (l.length : Int), isc (i : Int)] H) (l := l) (fun r i => if (r == m.drop i) then some ⟨2, [], H⟩ else some ⟨1, [bsc false], H⟩)
      (by rw [R_eq, e_iequalInts_0, lt_self]; rw [he, List.drop_eq_nil_of_le (Nat.le_refl _)]; rfl) (fun i hi r hr => by
        have hi2 : i < m.length := by omega
        rw [R_eq, e_iequalInts_0, lt_true hi, w1 hi (by omega), cond_true, ha.ldk hi, hb.ldk hi2]
        rw [List.drop_eq_getElem_cons hi2]
        by_cases hx : l[i] = m[i]
        · rw [hx, ne_i]
          simp only [cond_false, List.cons_beq_cons, BEq.rfl, Bool.true_and]
          exact hr
        · have hx' : (l[i] != m[i]) = true := bne_iff_ne.2 hx
          have hx2 : (l[i] == m[i]) = false := by simp [hx]
          simp only [hx', cond_true, List.cons_beq_cons, hx2, Bool.false_and, Bool.false_eq_true, if_false])
    have this : R (.loop F.iequalInts 0) [ssc a, ssc b, isc (l.length : Int), isc 0] H = if (l == m) then some ⟨2, [], H⟩ else some ⟨1, [bsc false], H⟩ := this
    rw [← he, this]
    cases l == m <;> rfl
  · have h1 : (((l.length : Nat) : Int) != ((m.length : Nat) : Int)) = true := bne_iff_ne.2 (by omega)
    have h2 : (l == m) = false := by
      rw [Bool.eq_false_iff]
      intro e
      exact he (by rw [eq_of_beq e])
    rw [h1, h2]; rfl
theorem take_beq {l m : List Int} : ∀ {i : Nat}, i ≤ l.length → l.take i = m.take i → (l == m) = (l.drop i == m.drop i) := by
  intro i hi h
  rcases Bool.eq_false_or_eq_true (l.drop i == m.drop i) with e | e
  · rw [e, beq_iff_eq]
    rw [← List.take_append_drop i l, ← List.take_append_drop i m, h, eq_of_beq e]
  · rw [e, Bool.eq_false_iff]
    intro e2
    rw [eq_of_beq e2] at e
    simp at e
/-- spec.l06Equal -/
theorem c_sl06Equal {H : AH} {a b : Sl} {l m : List Int} (ha : IS H a l) (hb : IS H b m) (hl : l.length ≤ 1048576) : R (.fn F.sl06Equal) [ssc a, ssc b] H = some ⟨1, [bsc (l == m)], H⟩ := by
  rw [R_eq, e_sl06Equal, ha.n, hb.n]
  have := loopG (F := fun i : Nat => R (.loop F.sl06Equal 0) [ssc b, ssc a, isc (l.length : Int), isc (i : Int)] H) (l := l) (fun r i => if (r == (m.drop i).take (l.length - i)) then some ⟨2, [], H⟩ else some ⟨1, [bsc false], H⟩)
    (by rw [R_eq, e_sl06Equal_0, lt_self]; simp) (fun i hi r hr => by
      rw [R_eq, e_sl06Equal_0, lt_true hi, w1 hi (by omega), cond_true, ha.ldk hi, hb.n]
      by_cases hi2 : i < m.length
      · rw [decide_eq_false (by omega), cond_false, hb.ldk hi2, List.drop_eq_getElem_cons hi2, show l.length - i = (l.length - (i + 1)) + 1 by omega, List.take_succ_cons]
        by_cases hx : l[i] = m[i]
        · rw [hx, ne_i]
          simp only [cond_false, List.cons_beq_cons, BEq.rfl, Bool.true_and]
          exact hr
        · have hx' : (m[i] != l[i]) = true := bne_iff_ne.2 (Ne.symm hx)
          have hx2 : (l[i] == m[i]) = false := by simp [hx]
          simp only [hx', cond_true, List.cons_beq_cons, hx2, Bool.false_and, Bool.false_eq_true, if_false]
      · rw [decide_eq_true (by omega), List.drop_eq_nil_of_le (by omega)]
        simp only [cond_true, List.take_nil]
        rfl)
  have this : R (.loop F.sl06Equal 0) [ssc b, ssc a, isc (l.length : Int), isc 0] H = if (l == m.take l.length) then some ⟨2, [], H⟩ else some ⟨1, [bsc false], H⟩ := this
  rw [this]
  by_cases he : l = m
  · subst he
    rw [List.take_length, if_pos (by simp)]
    simp [oneP, nthP]
    rfl
  · have h2 : (l == m) = false := by rw [Bool.eq_false_iff]; intro e; exact he (eq_of_beq e)
    rw [h2]
    by_cases hp : l == m.take l.length
    · rw [if_pos hp]
      have hp := eq_of_beq hp
      have hlen : ¬ l.length = m.length := fun e => he (by rw [e, List.take_length] at hp; exact hp)
      have : (((l.length : Nat) : Int) == ((m.length : Nat) : Int)) = false := by simp; omega
      simp only [Option.bind_some, Nat.beq, cond_true, cond_false, this]
    · rw [if_neg hp]; rfl
end Go.Abs
/- Contracts: jobs and sessions. -/
namespace Go.Abs
set_option linter.all false
set_option maxRecDepth 10000

theorem open_range {n : Nw} (hn : netB n = true) : ∀ x ∈ n.op, 0 ≤ x ∧ x ≤ 99 := by
  simp only [netB, Bool.and_eq_true, decide_eq_true_eq] at hn
  exact (sizeB_open hn.2).2.1
/-- impl.openAxes -/
theorem c_iopenAxes {H : AH} {s u : Sl} {n : Nw} (h : NS H s u n) (hn : netB n = true) :
    ∃ a b H', R (.fn F.iopenAxes) [npv n.r s u] H = some ⟨1, [tpv a b ⟨0, 0, 0, 0, true⟩], H'⟩ ∧ Go.Abs.Le H H' ∧ IS H' a n.op ∧ IS H' b (n.op.map (dimF n.ts)) := by
  obtain ⟨b1, b2, b3⟩ := netB_small hn
  have hx := open_range hn
  obtain ⟨D, e4, hD, hd⟩ := c_dims h hn
  obtain ⟨a, b, H3, e5, l3, o5, o6⟩ := c_iaxesOf hD h.op b2 hx
  have hmap : (n.op.map fun x => D.getD x.toNat 0) = n.op.map (dimF n.ts) := List.map_congr_left fun x hxm => hd x (hx x hxm).1 (hx x hxm).2
  rw [hmap] at o6
  refine ⟨a, b, H3, ?_, l3, o5, o6⟩
  rw [R_eq, e_iopenAxes, e4]
  simp only [Option.bind_some]
  rw [t_dims hD, dims_take hD, e5]
  simp only [Option.bind_some, o_sss]

structure JB where
  sl : List Int
  ps : List Sp
  nx : Int
  t : Tn
structure JS (H : AH) (v sp a b c : Sl) (j : JB) : Prop where
  v : IS H v j.sl
  ps : S2 H sp j.ps
  t : TS H a b c j.t
theorem JS.le {H H' : AH} (h : Go.Abs.Le H H') {v sp a b c : Sl} {j : JB} (k : JS H v sp a b c j) : JS H' v sp a b c j := ⟨k.v.le h, k.ps.le h, k.t.le h⟩
@[reducible] def jpv (v sp : Sl) (nx : Int) (a b c : Sl) : PV := .agg [.sl v, .sl sp, .int .i64 nx, .sl a, .sl b, .sl c]
def jobB (n : Nw) (j : JB) : Bool := ordB n j.ps && (inB j.nx 0 (sliceF n j.sl) && (tensorB n.r j.t && ((j.t.L == n.op) && (j.t.D == n.op.map (dimF n.ts)))))
theorem ordB_net {n : Nw} {ps : List Sp} (h : ordB n ps = true) : netB n = true := by
  simp only [ordB, Bool.and_eq_true] at h
  exact h.1.1
/-- impl.JobOk -/
theorem c_iJobOk {H : AH} {s u v sp a b c : Sl} {n : Nw} {j : JB} (h : NS H s u n) (ho : n.op.length ≤ 1048576) (hts : n.ts.length ≤ 4611686018427387904) (hj : JS H v sp a b c j) :
    ∃ H', R (.fn F.iJobOk) [npv n.r s u, jpv v sp j.nx a b c] H = some ⟨1, [bsc (jobB n j)], H'⟩ ∧ Go.Abs.Le H H' := by
  obtain ⟨H1, e1, l1⟩ := c_iSliceCount h ho hj.v
  by_cases h1 : sliceF n j.sl = -1
  · have : jobB n j = false := by
      have : inB j.nx 0 (sliceF n j.sl) = false := by
        rw [h1]; unfold inB
        by_cases h0 : j.nx ≥ 0
        · rw [decide_eq_false (show ¬ j.nx ≤ -1 by omega)]; simp
        · rw [decide_eq_false h0]; simp
      unfold jobB; rw [this]; simp
    refine ⟨H1, ?_, l1⟩
    rw [h1] at e1
    rw [R_eq, e_iJobOk, e1, this]; rfl
  · have hb1 : (sliceF n j.sl == -1) = false := by simp [h1]
    obtain ⟨H2, e2, l2⟩ := c_iOrderOk (h.le l1) ho (hj.ps.le l1) hts
    have l12 := l1.trans l2
    cases hob : ordB n j.ps with
    | false =>
      rw [hob] at e2
      refine ⟨H2, ?_, l12⟩
      rw [R_eq, e_iJobOk, e1]
      simp only [Option.bind_some, one_int, hb1, cond_false]
      rw [e2]
      unfold jobB
      rw [hob]; rfl
    | true =>
      rw [hob] at e2
      have hn := ordB_net hob
      by_cases h2 : j.nx < 0
      · refine ⟨H2, ?_, l12⟩
        have : jobB n j = false := by unfold jobB inB; rw [decide_eq_false (show ¬ j.nx ≥ 0 by omega)]; simp
        rw [R_eq, e_iJobOk, e1, this]
        simp only [Option.bind_some, one_int, hb1, cond_false]
        rw [e2]
        simp only [Option.bind_some, one_bool, Bool.not_true, cond_false, decide_eq_true h2, cond_true]
      · by_cases h3 : j.nx > sliceF n j.sl
        · refine ⟨H2, ?_, l12⟩
          have : jobB n j = false := by unfold jobB inB; rw [decide_eq_false (show ¬ j.nx ≤ sliceF n j.sl by omega)]; simp
          rw [R_eq, e_iJobOk, e1, this]
          simp only [Option.bind_some, one_int, hb1, cond_false]
          rw [e2]
          simp only [Option.bind_some, one_bool, Bool.not_true, cond_false, decide_eq_false h2, decide_eq_true h3, cond_true]
        · have hin : inB j.nx 0 (sliceF n j.sl) = true := by unfold inB; rw [decide_eq_true (show j.nx ≥ 0 by omega), decide_eq_true (show j.nx ≤ sliceF n j.sl by omega)]; rfl
          obtain ⟨x, y, H3, e3, l3, o1, o2⟩ := c_iopenAxes (h.le l12) hn
          have l13 := l12.trans l3
          have e4 := c_iTensorOk n.r (hj.t.le l13)
          refine ⟨H3, ?_, l13⟩
          unfold jobB
          rw [hob, hin, Bool.true_and, Bool.true_and]
          rw [R_eq, e_iJobOk, e1]
          simp only [Option.bind_some, one_int, hb1, cond_false]
          rw [e2]
          simp only [Option.bind_some, one_bool, Bool.not_true, cond_false, decide_eq_false h2, decide_eq_false h3]
          rw [e3]
          simp only [Option.bind_some, o_sss]
          rw [e4]
          simp only [Option.bind_some, one_bool]
          cases ht : tensorB n.r j.t with
          | false => rfl
          | true =>
            obtain ⟨f1, f2, f3⟩ := tensor_dims ht
            simp only [cond_true, Bool.true_and]
            rw [c_iequalInts (hj.t.le l13).L o1 (by omega)]
            simp only [Option.bind_some, one_bool]
            cases hL : j.t.L == n.op with
            | false => rfl
            | true =>
              simp only [cond_true, Bool.true_and]
              rw [c_iequalInts (hj.t.le l13).D o2 (by omega)]
              simp only [Option.bind_some, one_bool]
/-- spec.JobOk -/
theorem c_sJobOk {H : AH} {s u v sp a b c : Sl} {n : Nw} {j : JB} (h : NS H s u n) (ho : n.op.length ≤ 1048576) (hts : n.ts.length ≤ 4611686018427387904) (hj : JS H v sp a b c j) :
    ∃ H', R (.fn F.sJobOk) [npv n.r s u, jpv v sp j.nx a b c] H = some ⟨1, [bsc (jobB n j)], H'⟩ ∧ Go.Abs.Le H H' := by
  obtain ⟨H1, e1, l1⟩ := c_sOrderOk h ho hj.ps hts
  unfold jobB
  cases hob : ordB n j.ps with
  | false =>
    rw [hob] at e1
    exact ⟨H1, by rw [R_eq, e_sJobOk, e1]; rfl, l1⟩
  | true =>
    rw [hob] at e1
    have hn := ordB_net hob
    obtain ⟨b1, b2, b3⟩ := netB_small hn
    obtain ⟨H2, e2, l2⟩ := c_sSliceCount (h.le l1) ho (hj.v.le l1)
    have l12 := l1.trans l2
    rw [Bool.true_and]
    cases hin : inB j.nx 0 (sliceF n j.sl) with
    | false =>
      refine ⟨H2, ?_, l12⟩
      rw [R_eq, e_sJobOk, e1]
      simp only [Option.bind_some, one_bool, cond_true]
      rw [e2]
      simp only [Option.bind_some, one_int]
      rw [c_sl01In, hin]
      rfl
    | true =>
      rw [Bool.true_and]
      have e4 := c_sTensorOk n.r (hj.t.le l12)
      cases ht : tensorB n.r j.t with
      | false =>
        rw [ht] at e4
        refine ⟨H2, ?_, l12⟩
        rw [R_eq, e_sJobOk, e1]
        simp only [Option.bind_some, one_bool, cond_true]
        rw [e2]
        simp only [Option.bind_some, one_int]
        rw [c_sl01In, hin]
        simp only [Option.bind_some, one_bool, cond_true]
        rw [e4]
        rfl
      | true =>
        rw [ht] at e4
        rw [Bool.true_and]
        obtain ⟨f1, f2, f3⟩ := tensor_dims ht
        have e5 := c_sl06Equal (hj.t.le l12).L (h.le l12).op (by omega)
        cases hL : j.t.L == n.op with
        | false =>
          rw [hL] at e5
          refine ⟨H2, ?_, l12⟩
          rw [R_eq, e_sJobOk, e1]
          simp only [Option.bind_some, one_bool, cond_true]
          rw [e2]
          simp only [Option.bind_some, one_int]
          rw [c_sl01In, hin]
          simp only [Option.bind_some, one_bool, cond_true]
          rw [e4]
          simp only [Option.bind_some, one_bool, cond_true]
          rw [e5]
          rfl
        | true =>
          rw [hL] at e5
          rw [Bool.true_and]
          have hts : TsOk n.ts := ⟨by omega, fun t ht => ⟨(tensor_dims (net_mem hn t ht)).1, by have := b3 t ht; omega⟩⟩
          obtain ⟨y, H3, e6, l3, o6⟩ := c_sl12Dims (h.ts.le l12) hts (h.op.le l12) (by omega)
          refine ⟨H3, ?_, l12.trans l3⟩
          rw [R_eq, e_sJobOk, e1]
          simp only [Option.bind_some, one_bool, cond_true]
          rw [e2]
          simp only [Option.bind_some, one_int]
          rw [c_sl01In, hin]
          simp only [Option.bind_some, one_bool, cond_true]
          rw [e4]
          simp only [Option.bind_some, one_bool, cond_true]
          rw [e5]
          simp only [Option.bind_some, one_bool, cond_true]
          rw [e6]
          simp only [Option.bind_some, one_sl]
          rw [c_sl06Equal ((hj.t.le l12).le l3).D o6.is (by omega)]
          simp only [Option.bind_some, one_bool]

structure SB where
  n : Nw
  ps : List Sp
  j : JB
structure SS (H : AH) (s u sp v jp a b c : Sl) (g : SB) : Prop where
  n : NS H s u g.n
  ps : S2 H sp g.ps
  j : JS H v jp a b c g.j
theorem SS.le {H H' : AH} (h : Go.Abs.Le H H') {s u sp v jp a b c : Sl} {g : SB} (k : SS H s u sp v jp a b c g) : SS H' s u sp v jp a b c g := ⟨k.n.le h, k.ps.le h, k.j.le h⟩
@[reducible] def spv (r : Rg) (s u sp v jp : Sl) (nx : Int) (a b c : Sl) : PV := .agg [.int .i64 r.k, .int .i64 r.p, .int .i64 r.n, .sl s, .sl u, .sl sp, .sl v, .sl jp, .int .i64 nx, .sl a, .sl b, .sl c]
def sessB (g : SB) : Bool := netB g.n && (ordB g.n g.ps && jobB g.n g.j)
/-- impl.SessionOk -/
theorem c_iSessionOk {H : AH} {s u sp v jp a b c : Sl} {g : SB} (h : SS H s u sp v jp a b c g) (ho : g.n.op.length ≤ 1048576) (hts : g.n.ts.length ≤ 4611686018427387904) :
    ∃ H', R (.fn F.iSessionOk) [spv g.n.r s u sp v jp g.j.nx a b c] H = some ⟨1, [bsc (sessB g)], H'⟩ ∧ Go.Abs.Le H H' := by
  obtain ⟨H1, e1, l1⟩ := c_iNetworkOk h.n ho
  obtain ⟨H2, e2, l2⟩ := c_iOrderOk (h.n.le l1) ho (h.ps.le l1) hts
  have l12 := l1.trans l2
  obtain ⟨H3, e3, l3⟩ := c_iJobOk (h.n.le l12) ho hts (h.j.le l12)
  unfold sessB
  cases hn : netB g.n with
  | false =>
    rw [hn] at e1
    exact ⟨H1, by rw [R_eq, e_iSessionOk, e1]; rfl, l1⟩
  | true =>
    rw [hn] at e1
    cases hob : ordB g.n g.ps with
    | false =>
      rw [hob] at e2
      refine ⟨H2, ?_, l12⟩
      rw [R_eq, e_iSessionOk, e1]
      simp only [Option.bind_some, one_bool, cond_true]
      rw [e2]; rfl
    | true =>
      rw [hob] at e2
      refine ⟨H3, ?_, l12.trans l3⟩
      rw [R_eq, e_iSessionOk, e1]
      simp only [Option.bind_some, one_bool, cond_true]
      rw [e2]
      simp only [Option.bind_some, one_bool, cond_true]
      rw [e3]
      simp only [Option.bind_some, one_bool, Bool.true_and]
/-- spec.SessionOk -/
theorem c_sSessionOk {H : AH} {s u sp v jp a b c : Sl} {g : SB} (h : SS H s u sp v jp a b c g) (ho : g.n.op.length ≤ 1048576) (hts : g.n.ts.length ≤ 4611686018427387904) :
    ∃ H', R (.fn F.sSessionOk) [spv g.n.r s u sp v jp g.j.nx a b c] H = some ⟨1, [bsc (sessB g)], H'⟩ ∧ Go.Abs.Le H H' := by
  obtain ⟨H1, e1, l1⟩ := c_sNetworkOk h.n ho
  obtain ⟨H2, e2, l2⟩ := c_sOrderOk (h.n.le l1) ho (h.ps.le l1) hts
  have l12 := l1.trans l2
  obtain ⟨H3, e3, l3⟩ := c_sJobOk (h.n.le l12) ho hts (h.j.le l12)
  unfold sessB
  cases hn : netB g.n with
  | false =>
    rw [hn] at e1
    exact ⟨H1, by rw [R_eq, e_sSessionOk, e1]; rfl, l1⟩
  | true =>
    rw [hn] at e1
    cases hob : ordB g.n g.ps with
    | false =>
      rw [hob] at e2
      refine ⟨H2, ?_, l12⟩
      rw [R_eq, e_sSessionOk, e1]
      simp only [Option.bind_some, one_bool, cond_true]
      rw [e2]; rfl
    | true =>
      rw [hob] at e2
      refine ⟨H3, ?_, l12.trans l3⟩
      rw [R_eq, e_sSessionOk, e1]
      simp only [Option.bind_some, one_bool, cond_true]
      rw [e2]
      simp only [Option.bind_some, one_bool, cond_true]
      rw [e3]
      simp only [Option.bind_some, one_bool, Bool.true_and]
end Go.Abs
/- What the results of calls are taken apart to. Printed by clgen.py. -/
namespace Go.Abs
set_option linter.all false
theorem o_iiisssssisss (a0_0 : Int) (a0_1 : Int) (a0_2 : Int) (a0_3 : Sl) (a0_4 : Sl) (a0_5 : Sl) (a0_6 : Sl) (a0_7 : Sl) (a0_8 : Int) (a0_9 : Sl) (a0_10 : Sl) (a0_11 : Sl) {α : Type} (k : Int → Int → Int → Sl → Sl → Sl → Sl → Sl → Int → Sl → Sl → Sl → Option α) : ((oneP [.agg [.int .i64 a0_0, .int .i64 a0_1, .int .i64 a0_2, .sl a0_3, .sl a0_4, .sl a0_5, .sl a0_6, .sl a0_7, .int .i64 a0_8, .sl a0_9, .sl a0_10, .sl a0_11]]).bind fun p => p.agg?.bind fun l => cond (decide (l.length = 12)) ((intAt .i64 l 0).bind fun x0_0 => (intAt .i64 l 1).bind fun x0_1 => (intAt .i64 l 2).bind fun x0_2 => (slAt l 3).bind fun x0_3 => (slAt l 4).bind fun x0_4 => (slAt l 5).bind fun x0_5 => (slAt l 6).bind fun x0_6 => (slAt l 7).bind fun x0_7 => (intAt .i64 l 8).bind fun x0_8 => (slAt l 9).bind fun x0_9 => (slAt l 10).bind fun x0_10 => (slAt l 11).bind fun x0_11 => k x0_0 x0_1 x0_2 x0_3 x0_4 x0_5 x0_6 x0_7 x0_8 x0_9 x0_10 x0_11) none) = k a0_0 a0_1 a0_2 a0_3 a0_4 a0_5 a0_6 a0_7 a0_8 a0_9 a0_10 a0_11 := rfl
theorem o_iiisss (a0_0 : Int) (a0_1 : Int) (a0_2 : Int) (a0_3 : Sl) (a0_4 : Sl) (a0_5 : Sl) {α : Type} (k : Int → Int → Int → Sl → Sl → Sl → Option α) : ((oneP [.agg [.int .i64 a0_0, .int .i64 a0_1, .int .i64 a0_2, .sl a0_3, .sl a0_4, .sl a0_5]]).bind fun p => p.agg?.bind fun l => cond (decide (l.length = 6)) ((intAt .i64 l 0).bind fun x0_0 => (intAt .i64 l 1).bind fun x0_1 => (intAt .i64 l 2).bind fun x0_2 => (slAt l 3).bind fun x0_3 => (slAt l 4).bind fun x0_4 => (slAt l 5).bind fun x0_5 => k x0_0 x0_1 x0_2 x0_3 x0_4 x0_5) none) = k a0_0 a0_1 a0_2 a0_3 a0_4 a0_5 := rfl
end Go.Abs
/- Contracts: the law's own helpers for tensors, networks, steps, jobs and sessions. -/
namespace Go.Abs
set_option linter.all false
set_option maxRecDepth 10000

theorem maxLen_le : maxLen ≤ 9223372036854775807 := by decide
theorem z_ints {H : AH} {s : Sl} {l : List Int} (h : IS H s l) (hm : l.length ≤ maxLen) {left : Int} (h0 : 0 ≤ left) (h1 : left ≤ 1048576) :
    ∃ v, R (.fn F.wszIntS) [ssc s, isc left] H = some ⟨1, [isc v], H⟩ ∧ (v < 0 ∨ (0 ≤ v ∧ v ≤ 1048576 ∧ l.length ≤ 1048576)) := by
  have hx := maxLen_le
  have hn := h.n
  refine ⟨_, c_wszIntS s left h0 h1 (by omega) H, ?_⟩
  by_cases hg : left - (s.n : Int) < 0
  · rw [if_pos hg]; exact .inl (by omega)
  · rw [if_neg hg]; exact .inr ⟨by omega, by omega, by omega⟩
theorem z_steps {H : AH} {s : Sl} {ps : List Sp} (h : S2 H s ps) (hm : ps.length ≤ maxLen) {left : Int} (h0 : 0 ≤ left) (h1 : left ≤ 1048576) :
    ∃ v, R (.fn F.wszStepS) [ssc s, isc left] H = some ⟨1, [isc v], H⟩ ∧ (v < 0 ∨ (0 ≤ v ∧ v ≤ 1048576 ∧ ps.length ≤ 1048576)) := by
  have hx := maxLen_le
  have hn := h.1
  have hw : IntKind.wrap .i64 (left - (s.n : Int)) = left - s.n := by rw [wrap_id] <;> omega
  rw [R_eq, e_wszStepS, hw]
  by_cases hg : left - (s.n : Int) < 0
  · exact ⟨-1, by rw [decide_eq_true hg]; rfl, .inl (by omega)⟩
  · exact ⟨_, by rw [decide_eq_false hg]; rfl, .inr ⟨by omega, by omega, by omega⟩⟩
def TnMax (t : Tn) : Prop := t.L.length ≤ maxLen ∧ t.D.length ≤ maxLen ∧ t.X.length ≤ maxLen
theorem z_tensor {H : AH} {a b c : Sl} {t : Tn} (h : TS H a b c t) (hm : TnMax t) {left : Int} (h0 : 0 ≤ left) (h1 : left ≤ 1048576) :
    ∃ v, R (.fn F.wszTensor) [tpv a b c, isc left] H = some ⟨1, [isc v], H⟩ ∧ (v < 0 ∨ (0 ≤ v ∧ v ≤ 1048576 ∧ TnSmall t)) := by
  rw [R_eq, e_wszTensor]
  obtain ⟨v1, e1, g1 | ⟨g1, k1, m1⟩⟩ := z_ints h.L hm.1 h0 h1
  · exact ⟨-1, by rw [e1]; simp only [Option.bind_some, one_int, decide_eq_true g1, cond_true], .inl (by omega)⟩
  obtain ⟨v2, e2, g2 | ⟨g2, k2, m2⟩⟩ := z_ints h.D hm.2.1 g1 k1
  · exact ⟨-1, by rw [e1]; simp only [Option.bind_some, one_int, decide_eq_false (Int.not_lt.2 g1), cond_false]; rw [e2]; simp only [Option.bind_some, one_int, decide_eq_true g2, cond_true], .inl (by omega)⟩
  obtain ⟨v3, e3, g3 | ⟨g3, k3, m3⟩⟩ := z_ints h.X hm.2.2 g2 k2
  · exact ⟨-1, by rw [e1]; simp only [Option.bind_some, one_int, decide_eq_false (Int.not_lt.2 g1), cond_false]; rw [e2]; simp only [Option.bind_some, one_int, decide_eq_false (Int.not_lt.2 g2), cond_false]; rw [e3]; simp only [Option.bind_some, one_int, decide_eq_true g3, cond_true], .inl (by omega)⟩
  · exact ⟨v3, by rw [e1]; simp only [Option.bind_some, one_int, decide_eq_false (Int.not_lt.2 g1), cond_false]; rw [e2]; simp only [Option.bind_some, one_int, decide_eq_false (Int.not_lt.2 g2), cond_false]; rw [e3]; simp only [Option.bind_some, one_int, decide_eq_false (Int.not_lt.2 g3), cond_false], .inr ⟨g3, k3, m1, m2, m3⟩⟩
theorem z_tensors {H : AH} {s : Sl} {ts : List Tn} (h : T3 H s ts) (hn : ts.length ≤ maxLen) (hm : ∀ t ∈ ts, TnMax t) {left : Int} (h0 : 0 ≤ left) (h1 : left ≤ 1048576) :
    ∃ v, R (.fn F.wszTensorS) [ssc s, isc left] H = some ⟨1, [isc v], H⟩ ∧ (v < 0 ∨ (0 ≤ v ∧ v ≤ 1048576 ∧ ts.length ≤ 1048576 ∧ ∀ t ∈ ts, TnSmall t)) := by
  have hx := maxLen_le
  have loop : ∀ (k i : Nat), i + k = ts.length → ts.length ≤ 1048576 → ∀ left : Int, 0 ≤ left → left ≤ 1048576 →
      (R (.loop F.wszTensorS 0) [ssc s, isc left, isc (i : Int)] H = some ⟨1, [isc (-1)], H⟩) ∨ ∃ v : Int, R (.loop F.wszTensorS 0) [ssc s, isc left, isc (i : Int)] H = some ⟨2, [isc v], H⟩ ∧ 0 ≤ v ∧ v ≤ 1048576 ∧ ∀ t ∈ ts.drop i, TnSmall t := by
    intro k
    induction k with
    | zero =>
      intro i hi hl left h0 h1
      obtain rfl : i = ts.length := by omega
      exact .inr ⟨left, by rw [R_eq, e_wszTensorS_0, h.1, lt_self]; rfl, h0, h1, by simp⟩
    | succ k ih =>
      intro i hi hl left h0 h1
      have hlt : i < ts.length := by omega
      obtain ⟨a, b, c, ht, kt⟩ := h.ld hlt
      rw [R_eq, e_wszTensorS_0, h.1, lt_true hlt, w1 hlt (by omega), cond_true, kt]
      obtain ⟨v, e, g | ⟨g, g2, g3⟩⟩ := z_tensor ht (hm _ (List.getElem_mem hlt)) h0 h1
      · rw [e]
        simp only [Option.bind_some, one_int, decide_eq_true g, cond_true]
        exact .inl trivial
      · rw [e]
        simp only [Option.bind_some, one_int, decide_eq_false (Int.not_lt.2 g), cond_false]
        rcases ih (i + 1) (by omega) hl v g g2 with h2 | ⟨w, h2, h3, h4, h5⟩
        · exact .inl h2
        · refine .inr ⟨w, h2, h3, h4, fun t ht' => ?_⟩
          rw [List.drop_eq_getElem_cons hlt] at ht'
          rcases List.mem_cons.1 ht' with rfl | ht'
          · exact g3
          · exact h5 t ht'
  have hn1 := h.1
  have hw : IntKind.wrap .i64 (left - (s.n : Int)) = left - s.n := by rw [wrap_id] <;> omega
  rw [R_eq, e_wszTensorS, hw]
  by_cases hneg : left - (s.n : Int) < 0
  · exact ⟨-1, by rw [decide_eq_true hneg]; rfl, .inl (by omega)⟩
  · rw [decide_eq_false hneg, cond_false]
    have hll : ts.length ≤ 1048576 := by omega
    rcases loop ts.length 0 (by omega) hll (left - s.n) (by omega) (by omega) with h2 | ⟨v, h2, h3, h4, h5⟩
    · have h2 : R (.loop F.wszTensorS 0) [ssc s, isc (left - s.n), isc 0] H = some ⟨1, [isc (-1)], H⟩ := h2
      rw [h2]
      exact ⟨-1, rfl, .inl (by omega)⟩
    · have h2 : R (.loop F.wszTensorS 0) [ssc s, isc (left - s.n), isc 0] H = some ⟨2, [isc v], H⟩ := h2
      rw [h2]
      exact ⟨v, rfl, .inr ⟨h3, h4, hll, by simpa using h5⟩⟩
def NwMax (n : Nw) : Prop := n.ts.length ≤ maxLen ∧ n.op.length ≤ maxLen ∧ ∀ t ∈ n.ts, TnMax t
def NwSmall (n : Nw) : Prop := n.ts.length ≤ 1048576 ∧ n.op.length ≤ 1048576 ∧ ∀ t ∈ n.ts, TnSmall t
theorem z_network {H : AH} {s u : Sl} {n : Nw} (h : NS H s u n) (hm : NwMax n) {left : Int} (h0 : 0 ≤ left) (h1 : left ≤ 1048576) :
    ∃ v, R (.fn F.wszNetwork) [npv n.r s u, isc left] H = some ⟨1, [isc v], H⟩ ∧ (v < 0 ∨ (0 ≤ v ∧ v ≤ 1048576 ∧ NwSmall n)) := by
  rw [R_eq, e_wszNetwork]
  obtain ⟨v1, e1, g1 | ⟨g1, k1, m1, m2⟩⟩ := z_tensors h.ts hm.1 hm.2.2 h0 h1
  · exact ⟨-1, by rw [e1]; simp only [Option.bind_some, one_int, decide_eq_true g1, cond_true], .inl (by omega)⟩
  obtain ⟨v2, e2, g2 | ⟨g2, k2, m3⟩⟩ := z_ints h.op hm.2.1 g1 k1
  · exact ⟨-1, by rw [e1]; simp only [Option.bind_some, one_int, decide_eq_false (Int.not_lt.2 g1), cond_false]; rw [e2]; simp only [Option.bind_some, one_int, decide_eq_true g2, cond_true], .inl (by omega)⟩
  · exact ⟨v2, by rw [e1]; simp only [Option.bind_some, one_int, decide_eq_false (Int.not_lt.2 g1), cond_false]; rw [e2]; simp only [Option.bind_some, one_int, decide_eq_false (Int.not_lt.2 g2), cond_false], .inr ⟨g2, k2, m1, m3, m2⟩⟩
def JbMax (j : JB) : Prop := j.sl.length ≤ maxLen ∧ j.ps.length ≤ maxLen ∧ TnMax j.t
def JbSmall (j : JB) : Prop := j.sl.length ≤ 1048576 ∧ j.ps.length ≤ 1048576 ∧ TnSmall j.t
theorem z_job {H : AH} {v sp a b c : Sl} {j : JB} (h : JS H v sp a b c j) (hm : JbMax j) {left : Int} (h0 : 0 ≤ left) (h1 : left ≤ 1048576) :
    ∃ w, R (.fn F.wszJob) [jpv v sp j.nx a b c, isc left] H = some ⟨1, [isc w], H⟩ ∧ (w < 0 ∨ (0 ≤ w ∧ w ≤ 1048576 ∧ JbSmall j)) := by
  rw [R_eq, e_wszJob]
  obtain ⟨v1, e1, g1 | ⟨g1, k1, m1⟩⟩ := z_ints h.v hm.1 h0 h1
  · exact ⟨-1, by rw [e1]; simp only [Option.bind_some, one_int, decide_eq_true g1, cond_true], .inl (by omega)⟩
  obtain ⟨v2, e2, g2 | ⟨g2, k2, m2⟩⟩ := z_steps h.ps hm.2.1 g1 k1
  · exact ⟨-1, by rw [e1]; simp only [Option.bind_some, one_int, decide_eq_false (Int.not_lt.2 g1), cond_false]; rw [e2]; simp only [Option.bind_some, one_int, decide_eq_true g2, cond_true], .inl (by omega)⟩
  obtain ⟨v3, e3, g3 | ⟨g3, k3, m3⟩⟩ := z_tensor h.t hm.2.2 g2 k2
  · exact ⟨-1, by rw [e1]; simp only [Option.bind_some, one_int, decide_eq_false (Int.not_lt.2 g1), cond_false]; rw [e2]; simp only [Option.bind_some, one_int, decide_eq_false (Int.not_lt.2 g2), cond_false]; rw [e3]; simp only [Option.bind_some, one_int, decide_eq_true g3, cond_true], .inl (by omega)⟩
  · exact ⟨v3, by rw [e1]; simp only [Option.bind_some, one_int, decide_eq_false (Int.not_lt.2 g1), cond_false]; rw [e2]; simp only [Option.bind_some, one_int, decide_eq_false (Int.not_lt.2 g2), cond_false]; rw [e3]; simp only [Option.bind_some, one_int, decide_eq_false (Int.not_lt.2 g3), cond_false], .inr ⟨g3, k3, m1, m2, m3⟩⟩
def SbMax (g : SB) : Prop := NwMax g.n ∧ g.ps.length ≤ maxLen ∧ JbMax g.j
def SbSmall (g : SB) : Prop := NwSmall g.n ∧ g.ps.length ≤ 1048576 ∧ JbSmall g.j
theorem z_session {H : AH} {s u sp v jp a b c : Sl} {g : SB} (h : SS H s u sp v jp a b c g) (hm : SbMax g) {left : Int} (h0 : 0 ≤ left) (h1 : left ≤ 1048576) :
    ∃ w, R (.fn F.wszSession) [spv g.n.r s u sp v jp g.j.nx a b c, isc left] H = some ⟨1, [isc w], H⟩ ∧ (w < 0 ∨ (0 ≤ w ∧ w ≤ 1048576 ∧ SbSmall g)) := by
  rw [R_eq, e_wszSession]
  obtain ⟨v1, e1, g1 | ⟨g1, k1, m1⟩⟩ := z_network h.n hm.1 h0 h1
  · exact ⟨-1, by rw [e1]; simp only [Option.bind_some, one_int, decide_eq_true g1, cond_true], .inl (by omega)⟩
  obtain ⟨v2, e2, g2 | ⟨g2, k2, m2⟩⟩ := z_steps h.ps hm.2.1 g1 k1
  · exact ⟨-1, by rw [e1]; simp only [Option.bind_some, one_int, decide_eq_false (Int.not_lt.2 g1), cond_false]; rw [e2]; simp only [Option.bind_some, one_int, decide_eq_true g2, cond_true], .inl (by omega)⟩
  obtain ⟨v3, e3, g3 | ⟨g3, k3, m3⟩⟩ := z_job h.j hm.2.2 g2 k2
  · exact ⟨-1, by rw [e1]; simp only [Option.bind_some, one_int, decide_eq_false (Int.not_lt.2 g1), cond_false]; rw [e2]; simp only [Option.bind_some, one_int, decide_eq_false (Int.not_lt.2 g2), cond_false]; rw [e3]; simp only [Option.bind_some, one_int, decide_eq_true g3, cond_true], .inl (by omega)⟩
  · exact ⟨v3, by rw [e1]; simp only [Option.bind_some, one_int, decide_eq_false (Int.not_lt.2 g1), cond_false]; rw [e2]; simp only [Option.bind_some, one_int, decide_eq_false (Int.not_lt.2 g2), cond_false]; rw [e3]; simp only [Option.bind_some, one_int, decide_eq_false (Int.not_lt.2 g3), cond_false], .inr ⟨g3, k3, m1, m2, m3⟩⟩

theorem putR_all {H : AH} {b o z : Nat} {cs : List Sc} {x : Sc} {vs : List Sc} (hb : H[b]? = some ⟨cs, .rw, z⟩) (h : o + (vs.length + 1) ≤ cs.length) : putR H b o (x :: vs) = some (H.set b ⟨setAll cs o (x :: vs), .rw, z⟩) := by
  unfold putR
  simp only [hb, Option.bind_some]
  rw [if_pos (by simpa using h)]
theorem mk_any {H : AH} {z y n : Nat} {vs : List Sc} (hn : n ≤ 1048576) (hy : (y : Int) ≤ 1024) (hz : z ≠ 0) (hy0 : y ≠ 0) : mkB H z y vs (n : Int) (n : Int) = some (⟨H.length, 0, n, n, true⟩, H ++ [⟨(List.replicate n vs).flatten, .rw, z⟩]) := by
  unfold mkB
  have hmost : (n : Int) * (y : Int) ≤ most := by
    have : (n : Int) * (y : Int) ≤ 1048576 * 1024 := Int.mul_le_mul (by omega) hy (by omega) (by omega)
    unfold most; omega
  rw [if_pos ⟨hz, hy0, by omega, by omega, hmost⟩]
  simp
theorem c_wtoStepS {H : AH} {s : Sl} {ps : List Sp} (h : S2 H s ps) (hl : ps.length ≤ 1048576) :
    ∃ s' H', R (.fn F.wtoStepS) [ssc s] H = some ⟨1, [ssc s'], H'⟩ ∧ Go.Abs.Le H H' ∧ S2 H' s' ps := by
  have loop : ∀ (k i : Nat), i + k = ps.length → ∀ (Hc : AH) (cs : List Sc), Go.Abs.Le H Hc → Hc[H.length]? = some ⟨cs, .rw, 2⟩ → cs.length = ps.length * 2 →
      (∀ (j : Nat) g, j < i → ps[j]? = some g → cs[j * 2]? = some (.int .i64 g.a) ∧ cs[j * 2 + 1]? = some (.int .i64 g.b)) →
      ∃ H' cs', R (.loop F.wtoStepS 0) [ssc s, ssc ⟨H.length, 0, ps.length, ps.length, true⟩, isc (i : Int)] Hc = some ⟨2, [], H'⟩ ∧ Go.Abs.Le H H' ∧ H'[H.length]? = some ⟨cs', .rw, 2⟩ ∧
        ∀ (j : Nat) g, ps[j]? = some g → cs'[j * 2]? = some (.int .i64 g.a) ∧ cs'[j * 2 + 1]? = some (.int .i64 g.b) := by
    intro k
    induction k with
    | zero =>
      intro i hi Hc cs hle hb hcl hcs
      obtain rfl : i = ps.length := by omega
      exact ⟨Hc, cs, by rw [R_eq, e_wtoStepS_0, h.1, lt_self]; rfl, hle, hb, fun j g hj => hcs j g (List.getElem?_eq_some_iff.1 hj).1 hj⟩
    | succ k ih =>
      intro i hi Hc cs hle hb hcl hcs
      have hlt : i < ps.length := by omega
      have ht : R (.fn F.wtoStep) [.agg [.int .i64 ps[i].a, .int .i64 ps[i].b]] Hc = some ⟨1, [.agg [.int .i64 ps[i].a, .int .i64 ps[i].b]], Hc⟩ := by rw [R_eq, e_wtoStep]
      rw [R_eq, e_wtoStepS_0, h.1, lt_true hlt, w1 hlt (by omega), cond_true, (h.le hle).ld hlt, ht]
      simp only [Option.bind_some, o_ii]
      rw [ixA_nat (by exact hlt)]
      simp only [Option.bind_some, Nat.zero_add]
      rw [putR_all hb (by simp; omega)]
      simp only [Option.bind_some]
      refine ih (i + 1) (by omega) _ _ (set_le hle (Nat.le_refl _)) (set_get hb) (by rw [setAll_length]; exact hcl) (fun j g hj hjl => ?_)
      rw [setAll_get, setAll_get]
      by_cases e : j = i
      · subst e
        rw [List.getElem?_eq_getElem hlt] at hjl
        cases hjl
        rw [if_pos ⟨by omega, by simp, by omega⟩, if_pos ⟨by omega, by simp, by omega⟩]
        simp
      · have hji : j < i := by omega
        rw [if_neg (by omega), if_neg (by omega)]
        exact hcs j g hji hjl
  have hm := mk_any (H := H) (z := 2) (y := 16) (vs := [.int .i64 0, .int .i64 0]) hl (by omega) (by omega) (by omega)
  obtain ⟨H', cs, e, l1, b1, g⟩ := loop ps.length 0 (by omega) (H ++ [⟨(List.replicate ps.length [.int .i64 0, .int .i64 0]).flatten, .rw, 2⟩]) _ (Go.Abs.Le.app _ _) app_get (by simp) (fun j l hj => by omega)
  have e : R (.loop F.wtoStepS 0) [ssc s, ssc ⟨H.length, 0, ps.length, ps.length, true⟩, isc 0] (H ++ [⟨(List.replicate ps.length [.int .i64 0, .int .i64 0]).flatten, .rw, 2⟩]) = some ⟨2, [], H'⟩ := e
  refine ⟨⟨H.length, 0, ps.length, ps.length, true⟩, H', ?_, l1, ⟨rfl, Nat.le_refl _, .inr ⟨cs, by unfold rdB; rw [b1]; rfl, fun i x hi => by rw [Nat.zero_add]; exact g i x hi⟩⟩⟩
  rw [R_eq, e_wtoStepS, h.1]
  rw [show mkB H 2 16 [Sc.int .i64 0, .int .i64 0] (ps.length : Int) (ps.length : Int) = _ from hm]
  simp only [Option.bind_some]
  rw [e]; rfl
/-- laws.toTensor -/
theorem c_wtoTensor {H : AH} {a b c : Sl} {t : Tn} (h : TS H a b c t) (hs : TnSmall t) :
    ∃ a' b' c' H', R (.fn F.wtoTensor) [tpv a b c] H = some ⟨1, [tpv a' b' c'], H'⟩ ∧ Go.Abs.Le H H' ∧ TS H' a' b' c' t ∧ H.length ≤ a'.b ∧ H.length ≤ b'.b ∧ H.length ≤ c'.b := by
  obtain ⟨H1, e1, l1, n1, b1⟩ := c_wtoIntS h.L hs.1
  obtain ⟨H2, e2, l2, n2, b2⟩ := c_wtoIntS (h.D.le l1) hs.2.1
  obtain ⟨H3, e3, l3, n3, b3⟩ := c_wtoIntS (h.X.le (l1.trans l2)) hs.2.2
  refine ⟨rowAt H.length t.L, rowAt H1.length t.D, rowAt H2.length t.X, H3, ?_, (l1.trans l2).trans l3, ⟨((IS.of_blk b1 (Nat.le_refl _)).le (l2.trans l3)), ((IS.of_blk b2 (Nat.le_refl _)).le l3), IS.of_blk b3 (Nat.le_refl _)⟩, by show H.length ≤ H.length; omega, by show H.length ≤ H1.length; omega, by show H.length ≤ H2.length; omega⟩
  rw [R_eq, e_wtoTensor, e1]
  simp only [Option.bind_some, one_sl]
  rw [e2]
  simp only [Option.bind_some, one_sl]
  rw [e3]
  simp only [Option.bind_some, one_sl]
theorem TS.set {H : AH} {a b c : Sl} {t : Tn} (h : TS H a b c t) {q : Nat} {k : Blk} (h1 : a.b ≠ q) (h2 : b.b ≠ q) (h3 : c.b ≠ q) : TS (H.set q k) a b c t := ⟨h.L.set fun _ => h1, h.D.set fun _ => h2, h.X.set fun _ => h3⟩
/-- laws.toTensorS -/
theorem c_wtoTensorS {H : AH} {s : Sl} {ts : List Tn} (h : T3 H s ts) (hl : ts.length ≤ 1048576) (hs : ∀ t ∈ ts, TnSmall t) :
    ∃ s' H', R (.fn F.wtoTensorS) [ssc s] H = some ⟨1, [ssc s'], H'⟩ ∧ Go.Abs.Le H H' ∧ T3 H' s' ts := by
  have loop : ∀ (k i : Nat), i + k = ts.length → ∀ (Hc : AH) (cs : List Sc), Go.Abs.Le H Hc → Hc[H.length]? = some ⟨cs, .rw, 3⟩ → cs.length = ts.length * 3 →
      (∀ (j : Nat) t, j < i → ts[j]? = some t → ∃ a b c, cs[j * 3]? = some (.sl a) ∧ cs[j * 3 + 1]? = some (.sl b) ∧ cs[j * 3 + 1 + 1]? = some (.sl c) ∧ TS Hc a b c t ∧ a.b ≠ H.length ∧ b.b ≠ H.length ∧ c.b ≠ H.length) →
      ∃ H' cs', R (.loop F.wtoTensorS 0) [ssc s, ssc ⟨H.length, 0, ts.length, ts.length, true⟩, isc (i : Int)] Hc = some ⟨2, [], H'⟩ ∧ Go.Abs.Le H H' ∧ H'[H.length]? = some ⟨cs', .rw, 3⟩ ∧
        ∀ (j : Nat) t, ts[j]? = some t → ∃ a b c, cs'[j * 3]? = some (.sl a) ∧ cs'[j * 3 + 1]? = some (.sl b) ∧ cs'[j * 3 + 1 + 1]? = some (.sl c) ∧ TS H' a b c t := by
    intro k
    induction k with
    | zero =>
      intro i hi Hc cs hle hb hcl hcs
      obtain rfl : i = ts.length := by omega
      refine ⟨Hc, cs, by rw [R_eq, e_wtoTensorS_0, h.1, lt_self]; rfl, hle, hb, fun j g hj => ?_⟩
      obtain ⟨a, b, c, q1, q2, q3, q4, _⟩ := hcs j g (List.getElem?_eq_some_iff.1 hj).1 hj
      exact ⟨a, b, c, q1, q2, q3, q4⟩
    | succ k ih =>
      intro i hi Hc cs hle hb hcl hcs
      have hlt : i < ts.length := by omega
      obtain ⟨x, y, z, ht, kt⟩ := (h.le hle).ld hlt
      obtain ⟨a, b, c, H1, e1, l1, t1, p1, p2, p3⟩ := c_wtoTensor ht (hs _ (List.getElem_mem hlt))
      have hbl : H.length < Hc.length := (List.getElem?_eq_some_iff.1 hb).1
      have hb1 : H1[H.length]? = some ⟨cs, .rw, 3⟩ := by rw [l1.get _ hbl]; exact hb
      rw [R_eq, e_wtoTensorS_0, h.1, lt_true hlt, w1 hlt (by omega), cond_true, kt, e1]
      simp only [Option.bind_some, o_sss]
      rw [ixA_nat (by exact hlt)]
      simp only [Option.bind_some, Nat.zero_add]
      rw [putR_all hb1 (by simp; omega)]
      simp only [Option.bind_some]
      refine ih (i + 1) (by omega) _ _ (set_le (hle.trans l1) (Nat.le_refl _)) (set_get hb1) (by rw [setAll_length]; exact hcl) (fun j g hj hjl => ?_)
      rw [setAll_get, setAll_get, setAll_get]
      by_cases e : j = i
      · subst e
        rw [List.getElem?_eq_getElem hlt] at hjl
        cases hjl
        rw [if_pos ⟨by omega, by simp, by omega⟩, if_pos ⟨by omega, by simp, by omega⟩, if_pos ⟨by omega, by simp, by omega⟩]
        refine ⟨a, b, c, by simp, by simp, by rw [show j * 3 + 1 + 1 - j * 3 = 2 by omega]; rfl, t1.set (by omega) (by omega) (by omega), by omega, by omega, by omega⟩
      · have hji : j < i := by omega
        rw [if_neg (by omega), if_neg (by omega), if_neg (by omega)]
        obtain ⟨a, b, c, q1, q2, q3, q4, q5, q6, q7⟩ := hcs j g hji hjl
        exact ⟨a, b, c, q1, q2, q3, (q4.le l1).set q5 q6 q7, q5, q6, q7⟩
  have hm := mk_any (H := H) (z := 3) (y := 72) (vs := [.sl ⟨0, 0, 0, 0, true⟩, .sl ⟨0, 0, 0, 0, true⟩, .sl ⟨0, 0, 0, 0, true⟩]) hl (by omega) (by omega) (by omega)
  obtain ⟨H', cs, e, l1, b1, g⟩ := loop ts.length 0 (by omega) (H ++ [⟨(List.replicate ts.length [.sl ⟨0, 0, 0, 0, true⟩, .sl ⟨0, 0, 0, 0, true⟩, .sl ⟨0, 0, 0, 0, true⟩]).flatten, .rw, 3⟩]) _ (Go.Abs.Le.app _ _) app_get (by simp) (fun j l hj => by omega)
  have e : R (.loop F.wtoTensorS 0) [ssc s, ssc ⟨H.length, 0, ts.length, ts.length, true⟩, isc 0] (H ++ [⟨(List.replicate ts.length [.sl ⟨0, 0, 0, 0, true⟩, .sl ⟨0, 0, 0, 0, true⟩, .sl ⟨0, 0, 0, 0, true⟩]).flatten, .rw, 3⟩]) = some ⟨2, [], H'⟩ := e
  refine ⟨⟨H.length, 0, ts.length, ts.length, true⟩, H', ?_, l1, ⟨rfl, Nat.le_refl _, .inr ⟨cs, by unfold rdB; rw [b1]; rfl, fun i x hi => by rw [Nat.zero_add]; exact g i x hi⟩⟩⟩
  rw [R_eq, e_wtoTensorS, h.1]
  rw [show mkB H 3 72 [Sc.sl ⟨0, 0, 0, 0, true⟩, .sl ⟨0, 0, 0, 0, true⟩, .sl ⟨0, 0, 0, 0, true⟩] (ts.length : Int) (ts.length : Int) = _ from hm]
  simp only [Option.bind_some]
  rw [e]; rfl
/-- laws.toNetwork -/
theorem c_wtoNetwork {H : AH} {s u : Sl} {n : Nw} (h : NS H s u n) (hs : NwSmall n) :
    ∃ s' u' H', R (.fn F.wtoNetwork) [npv n.r s u] H = some ⟨1, [npv n.r s' u'], H'⟩ ∧ Go.Abs.Le H H' ∧ NS H' s' u' n := by
  obtain ⟨s', H1, e1, l1, t1⟩ := c_wtoTensorS h.ts hs.1 hs.2.2
  obtain ⟨H2, e2, l2, n2, b2⟩ := c_wtoIntS (h.op.le l1) hs.2.1
  refine ⟨s', rowAt H1.length n.op, H2, ?_, l1.trans l2, ⟨t1.le l2, IS.of_blk b2 (Nat.le_refl _)⟩⟩
  rw [R_eq, e_wtoNetwork, c_wtoRing]
  simp only [Option.bind_some, o_iii]
  rw [e1]
  simp only [Option.bind_some, one_sl]
  rw [e2]
  simp only [Option.bind_some, one_sl]
/-- laws.toJob -/
theorem c_wtoJob {H : AH} {v sp a b c : Sl} {j : JB} (h : JS H v sp a b c j) (hs : JbSmall j) :
    ∃ v' sp' a' b' c' H', R (.fn F.wtoJob) [jpv v sp j.nx a b c] H = some ⟨1, [jpv v' sp' j.nx a' b' c'], H'⟩ ∧ Go.Abs.Le H H' ∧ JS H' v' sp' a' b' c' j := by
  obtain ⟨H1, e1, l1, n1, b1⟩ := c_wtoIntS h.v hs.1
  obtain ⟨sp', H2, e2, l2, t2⟩ := c_wtoStepS (h.ps.le l1) hs.2.1
  obtain ⟨a', b', c', H3, e3, l3, t3, _⟩ := c_wtoTensor ((h.t.le l1).le l2) hs.2.2
  refine ⟨rowAt H.length j.sl, sp', a', b', c', H3, ?_, (l1.trans l2).trans l3, ⟨(IS.of_blk b1 (Nat.le_refl _)).le (l2.trans l3), t2.le l3, t3⟩⟩
  rw [R_eq, e_wtoJob, e1]
  simp only [Option.bind_some, one_sl]
  rw [e2]
  simp only [Option.bind_some, one_sl]
  rw [e3]
  simp only [Option.bind_some, o_sss]
/-- laws.toSession -/
theorem c_wtoSession {H : AH} {s u sp v jp a b c : Sl} {g : SB} (h : SS H s u sp v jp a b c g) (hs : SbSmall g) :
    ∃ s' u' sp' v' jp' a' b' c' H', R (.fn F.wtoSession) [spv g.n.r s u sp v jp g.j.nx a b c] H = some ⟨1, [spv g.n.r s' u' sp' v' jp' g.j.nx a' b' c'], H'⟩ ∧ Go.Abs.Le H H' ∧ SS H' s' u' sp' v' jp' a' b' c' g := by
  obtain ⟨s', u', H1, e1, l1, t1⟩ := c_wtoNetwork h.n hs.1
  obtain ⟨sp', H2, e2, l2, t2⟩ := c_wtoStepS (h.ps.le l1) hs.2.1
  obtain ⟨v', jp', a', b', c', H3, e3, l3, t3⟩ := c_wtoJob ((h.j.le l1).le l2) hs.2.2
  refine ⟨s', u', sp', v', jp', a', b', c', H3, ?_, (l1.trans l2).trans l3, ⟨(t1.le l2).le l3, t2.le l3, t3⟩⟩
  rw [R_eq, e_wtoSession, e1]
  simp only [Option.bind_some, o_iiiss]
  rw [e2]
  simp only [Option.bind_some, one_sl]
  rw [e3]
  simp only [Option.bind_some, o_ssisss]

/-- laws.eqStepS -/
theorem steps_eq {H : AH} {a b : Sl} {ps : List Sp} (ha : S2 H a ps) (hb : S2 H b ps) (hm : ps.length ≤ 1048576) : R (.fn F.weqStepS) [ssc a, ssc b] H = some ⟨1, [bsc true], H⟩ := by
  have := loop_all (F := fun i : Nat => R (.loop F.weqStepS 0) [ssc a, ssc b, isc (i : Int)] H) (l := ps) (some ⟨2, [], H⟩)
    (by rw [R_eq, e_weqStepS_0, ha.1, lt_self]; rfl) (fun i hi => by
      have he : R (.fn F.weqStep) [.agg [.int .i64 ps[i].a, .int .i64 ps[i].b], .agg [.int .i64 ps[i].a, .int .i64 ps[i].b]] H = some ⟨1, [bsc true], H⟩ := by
        rw [R_eq, e_weqStep, ne_i, ne_i]; rfl
      rw [R_eq, e_weqStepS_0, ha.1, lt_true hi, w1 hi (by omega), cond_true, ha.ld hi, hb.ld hi, he]
      rfl)
  have this : R (.loop F.weqStepS 0) [ssc a, ssc b, isc 0] H = some ⟨2, [], H⟩ := this
  rw [R_eq, e_weqStepS, ha.1, hb.1, this]
  simp [Nat.beq]
theorem job_eq {H : AH} {v sp a b c v' sp' a' b' c' : Sl} {j : JB} (h : JS H v sp a b c j) (k : JS H v' sp' a' b' c' j) (hs : JbSmall j) : R (.fn F.weqJob) [jpv v sp j.nx a b c, jpv v' sp' j.nx a' b' c'] H = some ⟨1, [bsc true], H⟩ := by
  rw [R_eq, e_weqJob, c52_eq h.v k.v hs.1]
  simp only [Option.bind_some, one_bool, Bool.not_true, cond_false]
  rw [steps_eq h.ps k.ps hs.2.1]
  simp only [Option.bind_some, one_bool, Bool.not_true, cond_false, ne_i]
  rw [c11_eq h.t k.t hs.2.2]
  rfl
theorem session_eq {H : AH} {s u sp v jp a b c s' u' sp' v' jp' a' b' c' : Sl} {g : SB} (h : SS H s u sp v jp a b c g) (k : SS H s' u' sp' v' jp' a' b' c' g) (hs : SbSmall g) :
    R (.fn F.weqSession) [spv g.n.r s u sp v jp g.j.nx a b c, spv g.n.r s' u' sp' v' jp' g.j.nx a' b' c'] H = some ⟨1, [bsc true], H⟩ := by
  rw [R_eq, e_weqSession, c19_eq h.n k.n hs.1.1 hs.1.2.2 hs.1.2.1]
  simp only [Option.bind_some, one_bool, Bool.not_true, cond_false]
  rw [steps_eq h.ps k.ps hs.2.1]
  simp only [Option.bind_some, one_bool, Bool.not_true, cond_false, ne_i]
  rw [job_eq h.j k.j hs.2.2]
  rfl
end Go.Abs
/- The law FnExactFormulaNetwork: its contract in plain Lean. -/
namespace Go.Abs
set_option linter.all false
set_option maxRecDepth 10000

def fieldsOf (P : Program) (t : TypeId) : Option (List (TypeId × Nat × Nat)) := match P.underlying t with
  | some (.struct fs) => some (fs.toList.map fun f => (f.type, f.offset, tsz P f.type))
  | _ => none
theorem open_struct {H : AH} {n : Nat} {t : TypeId} {L : List (TypeId × Nat × Nat)} (hf : fieldsOf P t = some L) {l : List Sc} (h : typed P (n + 1) H t l) : l.length = tsz P t ∧ ∀ x ∈ L, typed P n H x.1 ((l.drop x.2.1).take x.2.2) := by
  unfold fieldsOf at hf
  split at hf
  · rename_i fs hu
    cases hf
    simp only [typed, hu] at h
    refine ⟨h.1, fun x hx => ?_⟩
    obtain ⟨f, hm, rfl⟩ := List.mem_map.1 hx
    exact h.2 f hm
  · cases hf
theorem pvT_struct {t : TypeId} {L : List (TypeId × Nat × Nat)} (hf : fieldsOf P t = some L) (l : List Sc) : pvT P t l = .agg l := by
  unfold fieldsOf at hf
  unfold pvT
  split at hf
  · rename_i fs hu
    rw [hu]
  · cases hf
theorem u_int : P.underlying Y.tint = some (.int .i64) := by kernel_rfl
theorem u_Sint : P.underlying Y.tSint = some (.slice Y.tint) := by kernel_rfl
theorem u_SSint : P.underlying Y.tSSint = some (.slice Y.tSint) := by kernel_rfl
theorem z_int : tsz P Y.tint = 1 := by kernel_rfl
theorem z_Sint : tsz P Y.tSint = 1 := by kernel_rfl
theorem f_Ring : fieldsOf P Y.tlaws_Ring = some [(Y.tint, 0, 1), (Y.tint, 1, 1), (Y.tint, 2, 1)] := by kernel_rfl
theorem z_Ring : tsz P Y.tlaws_Ring = 3 := by kernel_rfl
theorem f_Cnf : fieldsOf P Y.tlaws_Cnf = some [(Y.tint, 0, 1), (Y.tSSint, 1, 1)] := by kernel_rfl
theorem z_Cnf : tsz P Y.tlaws_Cnf = 2 := by kernel_rfl
theorem len3 {α : Type} {l : List α} (h : l.length = 3) : ∃ a b c, l = [a, b, c] := by
  match l, h with
  | [a, b, c], _ => exact ⟨a, b, c, rfl⟩
theorem len2 {α : Type} {l : List α} (h : l.length = 2) : ∃ a b, l = [a, b] := by
  match l, h with
  | [a, b], _ => exact ⟨a, b, rfl⟩
theorem open_ring {H : AH} {n : Nat} {l : List Sc} (h : typed P (n + 2) H Y.tlaws_Ring l) : ∃ r : Rg, l = [.int .i64 r.k, .int .i64 r.p, .int .i64 r.n] := by
  obtain ⟨h1, h2⟩ := open_struct f_Ring h
  obtain ⟨a, b, c, rfl⟩ := len3 (h1.trans z_Ring)
  obtain ⟨k, hk, _⟩ := open_int u_int (h2 (Y.tint, 0, 1) (by simp))
  obtain ⟨p, hp, _⟩ := open_int u_int (h2 (Y.tint, 1, 1) (by simp))
  obtain ⟨m, hm, _⟩ := open_int u_int (h2 (Y.tint, 2, 1) (by simp))
  simp at hk hp hm
  exact ⟨⟨k, p, m⟩, by rw [hk, hp, hm]⟩
theorem open_cnf {H : AH} {n : Nat} {l : List Sc} (h : typed P (n + 4) H Y.tlaws_Cnf l) : ∃ w s ll, l = [.int .i64 w, .sl s] ∧ I2 H s ll ∧ ll.length ≤ maxLen ∧ ∀ x ∈ ll, x.length ≤ maxLen := by
  obtain ⟨h1, h2⟩ := open_struct f_Cnf h
  obtain ⟨a, b, rfl⟩ := len2 (h1.trans z_Cnf)
  obtain ⟨w, hw, _⟩ := open_int u_int (h2 (Y.tint, 0, 1) (by simp))
  obtain ⟨s, ll, hs, g1, g2, g3⟩ := open_rows u_SSint u_Sint u_int z_Sint z_int (h2 (Y.tSSint, 1, 1) (by simp))
  simp at hw hs
  exact ⟨w, s, ll, by rw [hw, hs], g1, g2, g3⟩

def resF (r : Rg) (w : Int) (ll : List (List Int)) : Nw := if fnB r w ll then netF r w.toNat ll else nw0
theorem resF_small (r : Rg) (w : Int) (ll : List (List Int)) : netB (resF r w ll) = true ∨ resF r w ll = nw0 := by
  unfold resF
  split
  · rename_i h
    simp only [fnB, Bool.and_eq_true] at h
    exact .inl h.2
  · exact .inr rfl
theorem k_iFormulaNetwork {r : Rg} {H : AH} {w : Int} {s : Sl} {ll : List (List Int)} (hs : I2 H s ll) :
    ∃ s' u' xs H', R (.fn F.iFormulaNetwork) [r.pv, cpv w s] H = some ⟨1, [npv (resF r w ll).r s' u', bsc (fnB r w ll)], H'⟩ ∧ Le H H' ∧ NetO H.length H' s' u' xs (resF r w ll) := by
  unfold resF
  rcases c_iFormulaNetwork (r := r) (w := w) hs with ⟨h, s', xs, H', e, N⟩ | ⟨h, H', e, l⟩
  · rw [h]; exact ⟨s', _, xs, H', e, N.fr.le, N.neto 0⟩
  · rw [h]; exact ⟨_, _, [], H', e, l, neto0 _ _ _ _⟩
theorem k_sFormulaNetwork {r : Rg} {H : AH} {w : Int} {s : Sl} {ll : List (List Int)} (hs : I2 H s ll) :
    ∃ s' u' H', R (.fn F.sFormulaNetwork) [r.pv, cpv w s] H = some ⟨1, [npv (resF r w ll).r s' u', bsc (fnB r w ll)], H'⟩ ∧ Le H H' ∧ NS H' s' u' (resF r w ll) := by
  unfold resF
  rcases c_sFormulaNetwork (r := r) (w := w) hs with ⟨h, s', xs, H', e, N⟩ | ⟨h, H', e, l⟩
  · rw [h]; exact ⟨s', _, H', e, N.fr.le, (N.neto (r := r) 0).ns⟩
  · rw [h]; exact ⟨_, _, H', e, l, (neto0 H'.length H' 0 0).ns⟩

theorem calc_FormulaNetwork {r : Rg} {w v k6 m : Int} {s s1 s3 s5 s8 sw uw sg ug sh uh : Sl} {n : Rg} {b : Bool} {H0 H1 H2 H3 H4 H5 H6 H7 H8 H9 : AH} (hd : decide (v < 0) = false)
    (hv : R (.fn F.wszCnf) [cpv w s, isc 1048576] H0 = some ⟨1, [isc v], H0⟩)
    (e1 : R (.fn F.wtoCnf) [cpv w s] H0 = some ⟨1, [cpv w s1], H1⟩)
    (e2 : R (.fn F.sFormulaNetwork) [r.pv, cpv w s1] H1 = some ⟨1, [npv n sw uw, bsc b], H2⟩)
    (e3 : R (.fn F.wtoCnf) [cpv w s] H2 = some ⟨1, [cpv w s3], H3⟩)
    (e4 : R (.fn F.iFormulaNetwork) [r.pv, cpv w s3] H3 = some ⟨1, [npv n sg ug, bsc b], H4⟩)
    (q1 : R (.fn F.weqNetwork) [npv n sg ug, npv n sw uw] H4 = some ⟨1, [bsc true], H4⟩)
    (e5 : R (.fn F.wtoCnf) [cpv w s] H4 = some ⟨1, [cpv w s5], H5⟩)
    (q2 : R (.fn F.weqCnf) [cpv w s3, cpv w s5] H5 = some ⟨1, [bsc true], H5⟩)
    (e6 : R (.fn F.wmarkCnf) [cpv w s3, isc 1] H5 = some ⟨1, [isc k6], H6⟩) (hk6 : decide (k6 < 0) = false)
    (q3 : R (.fn F.weqNetwork) [npv n sg ug, npv n sw uw] H6 = some ⟨1, [bsc true], H6⟩)
    (e7 : R (.fn F.wmarkNetwork) [npv n sg ug, isc 1] H6 = some ⟨1, [isc m], H7⟩) (hpos : decide (m < 0) = false)
    (q4 : R (.fn F.wheldNetwork) [npv n sg ug, isc 1] H7 = some ⟨1, [isc m], H7⟩)
    (e8 : R (.fn F.wtoCnf) [cpv w s] H7 = some ⟨1, [cpv w s8], H8⟩)
    (e9 : R (.fn F.iFormulaNetwork) [r.pv, cpv w s8] H8 = some ⟨1, [npv n sh uh, bsc b], H9⟩)
    (q5 : R (.fn F.weqNetwork) [npv n sh uh, npv n sw uw] H9 = some ⟨1, [bsc true], H9⟩)
    (q6 : R (.fn F.wheldNetwork) [npv n sg ug, isc 1] H9 = some ⟨1, [isc m], H9⟩) :
    R (.fn F.wFnExactFormulaNetwork) [r.pv, cpv w s] H0 = some ⟨1, [bsc true], H9⟩ := by
  rw [R_eq, e_wFnExactFormulaNetwork, hv]
  simp only [Option.bind_some, one_int, hd, cond_false]
  rw [c_wtoRing]
  simp only [Option.bind_some, one_int, one_bool, o_iii, o_is, t_iiiss_b, cond_true, cond_false, Bool.not_true, ne_b, ne_i, hpos, hk6]
  rw [e1]
  simp only [Option.bind_some, one_int, one_bool, o_iii, o_is, t_iiiss_b, cond_true, cond_false, Bool.not_true, ne_b, ne_i, hpos, hk6]
  rw [e2]
  simp only [Option.bind_some, one_int, one_bool, o_iii, o_is, t_iiiss_b, cond_true, cond_false, Bool.not_true, ne_b, ne_i, hpos, hk6]
  rw [e3]
  simp only [Option.bind_some, one_int, one_bool, o_iii, o_is, t_iiiss_b, cond_true, cond_false, Bool.not_true, ne_b, ne_i, hpos, hk6]
  rw [c_wtoRing]
  simp only [Option.bind_some, one_int, one_bool, o_iii, o_is, t_iiiss_b, cond_true, cond_false, Bool.not_true, ne_b, ne_i, hpos, hk6]
  rw [e4]
  simp only [Option.bind_some, one_int, one_bool, o_iii, o_is, t_iiiss_b, cond_true, cond_false, Bool.not_true, ne_b, ne_i, hpos, hk6]
  rw [q1]
  simp only [Option.bind_some, one_int, one_bool, o_iii, o_is, t_iiiss_b, cond_true, cond_false, Bool.not_true, ne_b, ne_i, hpos, hk6]
  rw [e5]
  simp only [Option.bind_some, one_int, one_bool, o_iii, o_is, t_iiiss_b, cond_true, cond_false, Bool.not_true, ne_b, ne_i, hpos, hk6]
  rw [q2]
  simp only [Option.bind_some, one_int, one_bool, o_iii, o_is, t_iiiss_b, cond_true, cond_false, Bool.not_true, ne_b, ne_i, hpos, hk6]
  rw [e6]
  simp only [Option.bind_some, one_int, one_bool, o_iii, o_is, t_iiiss_b, cond_true, cond_false, Bool.not_true, ne_b, ne_i, hpos, hk6]
  rw [q3]
  simp only [Option.bind_some, one_int, one_bool, o_iii, o_is, t_iiiss_b, cond_true, cond_false, Bool.not_true, ne_b, ne_i, hpos, hk6]
  rw [e7]
  simp only [Option.bind_some, one_int, one_bool, o_iii, o_is, t_iiiss_b, cond_true, cond_false, Bool.not_true, ne_b, ne_i, hpos, hk6]
  rw [q4]
  simp only [Option.bind_some, one_int, one_bool, o_iii, o_is, t_iiiss_b, cond_true, cond_false, Bool.not_true, ne_b, ne_i, hpos, hk6]
  rw [c_wtoRing]
  simp only [Option.bind_some, one_int, one_bool, o_iii, o_is, t_iiiss_b, cond_true, cond_false, Bool.not_true, ne_b, ne_i, hpos, hk6]
  rw [e8]
  simp only [Option.bind_some, one_int, one_bool, o_iii, o_is, t_iiiss_b, cond_true, cond_false, Bool.not_true, ne_b, ne_i, hpos, hk6]
  rw [e9]
  simp only [Option.bind_some, one_int, one_bool, o_iii, o_is, t_iiiss_b, cond_true, cond_false, Bool.not_true, ne_b, ne_i, hpos, hk6]
  rw [q5]
  simp only [Option.bind_some, one_int, one_bool, o_iii, o_is, t_iiiss_b, cond_true, cond_false, Bool.not_true, ne_b, ne_i, hpos, hk6]
  rw [q6]
  simp only [Option.bind_some, one_int, one_bool, o_iii, o_is, t_iiiss_b, cond_true, cond_false, Bool.not_true, ne_b, ne_i, hpos, hk6]
theorem law_FormulaNetwork : LawPure P R F.wFnExactFormulaNetwork [Y.tlaws_Ring, Y.tlaws_Cnf] := by
  intro H0 ls hro hA
  obtain ⟨l1, l2, rfl, t1, t2⟩ : ∃ l1 l2, ls = [l1, l2] ∧ typed P 8 H0 Y.tlaws_Ring l1 ∧ typed P 8 H0 Y.tlaws_Cnf l2 := by
    cases hA with
    | cons a h =>
      cases h with
      | cons b h => cases h; exact ⟨_, _, rfl, a, b⟩
  obtain ⟨r, rfl⟩ := open_ring t1
  obtain ⟨w, s, ll, rfl, hs, hm1, hm2⟩ := open_cnf t2
  show ∃ H', R _ [pvT P Y.tlaws_Ring _, pvT P Y.tlaws_Cnf _] H0 = _
  rw [pvT_struct f_Ring, pvT_struct f_Cnf]
  have hmx : maxLen ≤ 9223372036854775807 := by decide
  obtain ⟨v, hv, hvs⟩ := c_wszCnf (w := w) hs (by rw [hs.1]; omega) (fun l hl => by have := hm2 l hl; omega)
  by_cases hneg : v < 0
  · refine ⟨H0, ?_⟩
    have hd : decide (v < 0) = true := decide_eq_true hneg
    rw [R_eq, e_wFnExactFormulaNetwork, hv]
    simp only [Option.bind_some, one_int, hd, cond_true]
  · have hd : decide (v < 0) = false := decide_eq_false hneg
    obtain ⟨hl1, hl2⟩ := hvs.resolve_left hneg
    -- the copy for the reference, and its answer
    obtain ⟨H1, c1, e1, le1, ln1, la1⟩ := c_wtoCnf (v := w) hs hl1 hl2
    obtain ⟨sw, uw, H2, e2, le2, nsw⟩ := k_sFormulaNetwork (r := r) (w := w) la1.i2
    -- the program's copy and answer
    obtain ⟨H3, c3, e3, le3, ln3, la3⟩ := c_wtoCnf (v := w) (hs.le (le1.trans le2)) hl1 hl2
    obtain ⟨sg, ug, xg, H4, e4, le4, ng⟩ := k_iFormulaNetwork (r := r) (w := w) la3.i2
    obtain ⟨sm1, sm2, sm3, sm4⟩ := small_net (resF_small r w ll)
    have nsw4 := nsw.le (le3.trans le4)
    have q1 := c19_eq ng.ns nsw4 sm3 sm2 sm4
    -- the program's copy reads as before
    obtain ⟨H5, c5, e5, le5, ln5, la5⟩ := c_wtoCnf (v := w) (hs.le (((le1.trans le2).trans le3).trans le4)) hl1 hl2
    have q2 := c20_eq (v := w) (la3.i2.le (le4.trans le5)) la5.i2 hl1 hl2
    -- it is marked
    have la3' : Laid H5 H2.length ll c3 := ⟨by rw [(le4.trans le5).get _ (by omega)]; exact la3.out, fun j l hj => ⟨(la3.row j l hj).1, by
      have := (List.getElem?_eq_some_iff.1 (la3.row j l hj).2).1
      rw [(le4.trans le5).get _ this]; exact (la3.row j l hj).2⟩⟩
    obtain ⟨k6, H6, e6, p6, ln6, f6⟩ := c_wmarkCnf (w := w) la3' hl1 hl2
    have le56 : Le H2 H6 := ⟨by rw [ln6]; exact ((le3.trans le4).trans le5).len, fun b hb => by rw [f6 b (.inl (by omega))]; exact ((le3.trans le4).trans le5).get b hb⟩
    have nsw6 := nsw.le le56
    have ng5 : NetO H3.length H5 sg ug xg (resF r w ll) := ng.keep fun b h1 h2 => le5.get b h2
    have ng6 : NetO H3.length H6 sg ug xg (resF r w ll) := ng5.keep fun b h1 h2 => f6 b (.inr (by omega))
    have q3 := c19_eq ng6.ns nsw6 sm3 sm2 sm4
    -- the program's answer is marked, and holds the marks
    obtain ⟨H7, e7, ln7, o7, f7⟩ := c_wmarkNetwork ng6.own sm1
    have hIS7 : ∀ p ∈ rowsN xg ug (relN 1 (resF r w ll)), IS H7 p.1 p.2 := fun p hp => (o7.rows.own p hp).is
    have q4 := c_wheldNetwork (n0 := H3.length) ng6.len o7.outer hIS7 sm1
    have hle27 : Le H2 H7 := ⟨by rw [ln7]; exact le56.len, fun b hb => by
      rw [f7 b fun p hp => ?_]
      · exact le56.get b hb
      · rcases (ng6.rows.own p hp).lo with h | h
        · exact .inr h
        · exact .inl (by have := le3.len; omega)⟩
    -- once more
    have hle07 : Le H0 H7 := (le1.trans le2).trans hle27
    obtain ⟨H8, c8, e8, le8, ln8, la8⟩ := c_wtoCnf (v := w) (hs.le hle07) hl1 hl2
    obtain ⟨sh, uh, xh, H9, e9, le9, nh⟩ := k_iFormulaNetwork (r := r) (w := w) la8.i2
    have nsw9 := nsw.le (hle27.trans (le8.trans le9))
    have q5 := c19_eq nh.ns nsw9 sm3 sm2 sm4
    have oo7 : OOut H3.length H7 sg xg := ng6.out.keep fun hx => f7 _ fun p hp => by
      by_cases hp2 : p.2 = []
      · exact .inr hp2
      · exact .inl (Ne.symm (ng6.out.ne hx (ng6.rows.own p hp) hp2))
    have q6 := c_wheldNetwork (n0 := H3.length) (H := H9) ng6.len (oo7.le (le8.trans le9)).outer (fun p hp => (hIS7 p hp).le (le8.trans le9)) sm1
    refine ⟨H9, ?_⟩
    have hpos : decide (1 + cntN (resF r w ll) < 0) = false := decide_eq_false (by
      have h1 := cntTs_pos (resF r w ll).ts
      unfold cntN; omega)
    have hk6 : decide (k6 < 0) = false := decide_eq_false (by omega)
    have hbe : ∀ b : Bool, (b != b) = false := fun b => by cases b <;> rfl
    have hie : ∀ i : Int, (i != i) = false := fun i => by simp
    exact calc_FormulaNetwork hd hv e1 e2 e3 e4 q1 e5 q2 e6 hk6 q3 e7 hpos q4 e8 e9 q5 q6
end Go.Abs
/- The law FnExactSessionOk: its contract in plain Lean. -/
namespace Go.Abs
set_option linter.all false
set_option maxRecDepth 10000

theorem f_Tensor : fieldsOf P Y.tlaws_Tensor = some [(Y.tSint, 0, 1), (Y.tSint, 1, 1), (Y.tSint, 2, 1)] := by kernel_rfl
theorem z_Tensor : tsz P Y.tlaws_Tensor = 3 := by kernel_rfl
theorem u_STensor : P.underlying Y.tSlaws_Tensor = some (.slice Y.tlaws_Tensor) := by kernel_rfl
theorem f_Step : fieldsOf P Y.tlaws_Step = some [(Y.tint, 0, 1), (Y.tint, 1, 1)] := by kernel_rfl
theorem z_Step : tsz P Y.tlaws_Step = 2 := by kernel_rfl
theorem u_SStep : P.underlying Y.tSlaws_Step = some (.slice Y.tlaws_Step) := by kernel_rfl
theorem f_Network : fieldsOf P Y.tlaws_Network = some [(Y.tlaws_Ring, 0, 3), (Y.tSlaws_Tensor, 3, 1), (Y.tSint, 4, 1)] := by kernel_rfl
theorem z_Network : tsz P Y.tlaws_Network = 5 := by kernel_rfl
theorem f_Job : fieldsOf P Y.tlaws_Job = some [(Y.tSint, 0, 1), (Y.tSlaws_Step, 1, 1), (Y.tint, 2, 1), (Y.tlaws_Tensor, 3, 3)] := by kernel_rfl
theorem z_Job : tsz P Y.tlaws_Job = 6 := by kernel_rfl
theorem f_Session : fieldsOf P Y.tlaws_Session = some [(Y.tlaws_Network, 0, 5), (Y.tSlaws_Step, 5, 1), (Y.tlaws_Job, 6, 6)] := by kernel_rfl
theorem z_Session : tsz P Y.tlaws_Session = 12 := by kernel_rfl
theorem len5 {α : Type} {l : List α} (h : l.length = 5) : ∃ a b c d e, l = [a, b, c, d, e] := by
  match l, h with
  | [a, b, c, d, e], _ => exact ⟨a, b, c, d, e, rfl⟩
theorem len6 {α : Type} {l : List α} (h : l.length = 6) : ∃ a b c d e f, l = [a, b, c, d, e, f] := by
  match l, h with
  | [a, b, c, d, e, f], _ => exact ⟨a, b, c, d, e, f, rfl⟩
theorem take_three' {cells : List Sc} {i : Nat} {x y z : Sc} (h : (cells.drop (i * 3)).take 3 = [x, y, z]) : cells[i * 3]? = some x ∧ cells[i * 3 + 1]? = some y ∧ cells[i * 3 + 1 + 1]? = some z := by
  have h0 := congrArg (fun l => l[0]?) h
  have h1 := congrArg (fun l => l[1]?) h
  have h2 := congrArg (fun l => l[2]?) h
  simp at h0 h1 h2
  exact ⟨h0, h1, h2⟩
theorem take_two {cells : List Sc} {i : Nat} {x y : Sc} (h : (cells.drop (i * 2)).take 2 = [x, y]) : cells[i * 2]? = some x ∧ cells[i * 2 + 1]? = some y := by
  have h0 := congrArg (fun l => l[0]?) h
  have h1 := congrArg (fun l => l[1]?) h
  simp at h0 h1
  exact ⟨h0, h1⟩
theorem open_tensor {H : AH} {n : Nat} {l : List Sc} (h : typed P (n + 3) H Y.tlaws_Tensor l) : ∃ a b c t, l = [.sl a, .sl b, .sl c] ∧ TS H a b c t ∧ TnMax t := by
  obtain ⟨h1, h2⟩ := open_struct f_Tensor h
  obtain ⟨x, y, z, rfl⟩ := len3 (h1.trans z_Tensor)
  obtain ⟨a, L, ha, a1, a2, _⟩ := open_ints u_Sint u_int z_int (h2 (Y.tSint, 0, 1) (by simp))
  obtain ⟨b, D, hb, b1, b2, _⟩ := open_ints u_Sint u_int z_int (h2 (Y.tSint, 1, 1) (by simp))
  obtain ⟨c, X, hc, c1, c2, _⟩ := open_ints u_Sint u_int z_int (h2 (Y.tSint, 2, 1) (by simp))
  simp at ha hb hc
  exact ⟨a, b, c, ⟨L, D, X⟩, by rw [ha, hb, hc], ⟨a1, b1, c1⟩, a2, b2, c2⟩
theorem open_tensors {H : AH} {n : Nat} {l : List Sc} (h : typed P (n + 4) H Y.tSlaws_Tensor l) : ∃ s ts, l = [.sl s] ∧ T3 H s ts ∧ ts.length ≤ maxLen ∧ ∀ t ∈ ts, TnMax t := by
  obtain ⟨s, xs, h1, h2, h3, h4, h5, h6⟩ := open_sl (E := fun i cells (t : Tn) => (∃ a b c, cells[i * 3]? = some (.sl a) ∧ cells[i * 3 + 1]? = some (.sl b) ∧ cells[i * 3 + 1 + 1]? = some (.sl c) ∧ TS H a b c t) ∧ TnMax t) u_STensor z_Tensor h (fun cells i ht => by
    obtain ⟨a, b, c, t, e, g, m⟩ := open_tensor ht
    obtain ⟨q1, q2, q3⟩ := take_three' e
    exact ⟨t, ⟨a, b, c, q1, q2, q3, g⟩, m⟩)
  refine ⟨s, xs, h1, ⟨h2, h3, h6.imp id fun ⟨cells, g1, g2⟩ => ⟨cells, g1, fun i t hi => ?_⟩⟩, h4, fun t ht => ?_⟩
  · obtain ⟨j, hj⟩ := List.getElem?_of_mem ht
    rcases h6 with e | ⟨cells, _, g2⟩
    · rw [e] at ht; simp at ht
    · exact (g2 j t hj).2
  · rw [h5, Nat.zero_add]
    exact (g2 i t hi).1
theorem open_steps {H : AH} {n : Nat} {l : List Sc} (h : typed P (n + 3) H Y.tSlaws_Step l) : ∃ s ps, l = [.sl s] ∧ S2 H s ps ∧ ps.length ≤ maxLen := by
  obtain ⟨s, xs, h1, h2, h3, h4, h5, h6⟩ := open_sl (E := fun i cells (g : Sp) => cells[i * 2]? = some (.int .i64 g.a) ∧ cells[i * 2 + 1]? = some (.int .i64 g.b)) u_SStep z_Step h (fun cells i ht => by
    obtain ⟨g1, g2⟩ := open_struct f_Step ht
    obtain ⟨a, b, hab⟩ := len2 (g1.trans z_Step)
    rw [hab] at g2
    obtain ⟨k, hk, _⟩ := open_int u_int (g2 (Y.tint, 0, 1) (by simp))
    obtain ⟨p, hp, _⟩ := open_int u_int (g2 (Y.tint, 1, 1) (by simp))
    simp at hk hp
    rw [hk, hp] at hab
    exact ⟨⟨k, p⟩, take_two hab⟩)
  refine ⟨s, xs, h1, ⟨h2, h3, h6.imp id fun ⟨cells, g1, g2⟩ => ⟨cells, g1, fun i g hi => by rw [h5, Nat.zero_add]; exact g2 i g hi⟩⟩, h4⟩
theorem open_network {H : AH} {n : Nat} {l : List Sc} (h : typed P (n + 5) H Y.tlaws_Network l) : ∃ s u g, l = [.int .i64 g.r.k, .int .i64 g.r.p, .int .i64 g.r.n, .sl s, .sl u] ∧ NS H s u g ∧ NwMax g := by
  obtain ⟨h1, h2⟩ := open_struct f_Network h
  obtain ⟨x0, x1, x2, x3, x4, rfl⟩ := len5 (h1.trans z_Network)
  obtain ⟨r, hr⟩ := open_ring (h2 (Y.tlaws_Ring, 0, 3) (by simp))
  obtain ⟨s, ts, hs, s1, s2, s3⟩ := open_tensors (h2 (Y.tSlaws_Tensor, 3, 1) (by simp))
  obtain ⟨u, op, hu, u1, u2, _⟩ := open_ints u_Sint u_int z_int (h2 (Y.tSint, 4, 1) (by simp))
  simp at hr hs hu
  exact ⟨s, u, ⟨r, ts, op⟩, by rw [hr.1, hr.2.1, hr.2.2, hs, hu], ⟨s1, u1⟩, s2, u2, s3⟩
theorem open_job {H : AH} {n : Nat} {l : List Sc} (h : typed P (n + 5) H Y.tlaws_Job l) : ∃ v sp a b c j, l = [.sl v, .sl sp, .int .i64 j.nx, .sl a, .sl b, .sl c] ∧ JS H v sp a b c j ∧ JbMax j := by
  obtain ⟨h1, h2⟩ := open_struct f_Job h
  obtain ⟨x0, x1, x2, x3, x4, x5, rfl⟩ := len6 (h1.trans z_Job)
  obtain ⟨v, sl, hv, v1, v2, _⟩ := open_ints u_Sint u_int z_int (h2 (Y.tSint, 0, 1) (by simp))
  obtain ⟨sp, ps, hp, p1, p2⟩ := open_steps (h2 (Y.tSlaws_Step, 1, 1) (by simp))
  obtain ⟨nx, hn, _⟩ := open_int u_int (h2 (Y.tint, 2, 1) (by simp))
  obtain ⟨a, b, c, t, ht, t1, t2⟩ := open_tensor (h2 (Y.tlaws_Tensor, 3, 3) (by simp))
  simp at hv hp hn ht
  exact ⟨v, sp, a, b, c, ⟨sl, ps, nx, t⟩, by rw [hv, hp, hn, ht.1, ht.2.1, ht.2.2], ⟨v1, p1, t1⟩, v2, p2, t2⟩
theorem open_session {H : AH} {n : Nat} {l : List Sc} (h : typed P (n + 6) H Y.tlaws_Session l) : ∃ s u sp v jp a b c g, l = [.int .i64 g.n.r.k, .int .i64 g.n.r.p, .int .i64 g.n.r.n, .sl s, .sl u, .sl sp, .sl v, .sl jp, .int .i64 g.j.nx, .sl a, .sl b, .sl c] ∧ SS H s u sp v jp a b c g ∧ SbMax g := by
  obtain ⟨h1, h2⟩ := open_struct f_Session h
  obtain ⟨s, u, g, hg, g1, g2⟩ := open_network (h2 (Y.tlaws_Network, 0, 5) (by simp))
  obtain ⟨sp, ps, hp, p1, p2⟩ := open_steps (h2 (Y.tSlaws_Step, 5, 1) (by simp))
  obtain ⟨v, jp, a, b, c, j, hj, j1, j2⟩ := open_job (h2 (Y.tlaws_Job, 6, 6) (by simp))
  refine ⟨s, u, sp, v, jp, a, b, c, ⟨g, ps, j⟩, ?_, ⟨g1, p1, j1⟩, g2, p2, j2⟩
  have hl := h1.trans z_Session
  have e : l = (l.drop 0).take 5 ++ ((l.drop 5).take 1 ++ (l.drop 6).take 6) := by
    refine List.ext_getElem? fun i => ?_
    simp only [List.getElem?_append, List.getElem?_take, List.getElem?_drop, List.length_take, List.length_drop, hl]
    by_cases a1 : i < 5
    · simp [a1]
    · by_cases a2 : i < 6
      · have : i = 5 := by omega
        subst this; simp
      · by_cases a3 : i < 12
        · have e1 : ¬ i < 5 := a1
          have e2 : ¬ i - 5 < 1 := by omega
          have e3 : i - 5 - 1 < 6 := by omega
          have e4 : 6 + (i - 5 - 1) = i := by omega
          simp [e1, e2, e3, e4]
        · rw [List.getElem?_eq_none (by omega)]
          have e1 : ¬ i < 5 := a1
          have e2 : ¬ i - 5 < 1 := by omega
          have e3 : ¬ i - 5 - 1 < 6 := by omega
          simp [e1, e2, e3]
  rw [e, hg, hp, hj]
  rfl

theorem calc_SessionOk {r : Rg} {nx v : Int} {s u sp w jp a b c s1 u1 sp1 w1 jp1 a1 b1 c1 s2 u2 sp2 w2 jp2 a2 b2 c2 s3 u3 sp3 w3 jp3 a3 b3 c3 : Sl} {q : Bool} {H0 H1 H2 H3 H4 H5 : AH} (hd : decide (v < 0) = false)
    (hv : R (.fn F.wszSession) [spv r s u sp w jp nx a b c, isc 1048576] H0 = some ⟨1, [isc v], H0⟩)
    (e1 : R (.fn F.wtoSession) [spv r s u sp w jp nx a b c] H0 = some ⟨1, [spv r s1 u1 sp1 w1 jp1 nx a1 b1 c1], H1⟩)
    (e2 : R (.fn F.sSessionOk) [spv r s1 u1 sp1 w1 jp1 nx a1 b1 c1] H1 = some ⟨1, [bsc q], H2⟩)
    (e3 : R (.fn F.wtoSession) [spv r s u sp w jp nx a b c] H2 = some ⟨1, [spv r s2 u2 sp2 w2 jp2 nx a2 b2 c2], H3⟩)
    (e4 : R (.fn F.iSessionOk) [spv r s2 u2 sp2 w2 jp2 nx a2 b2 c2] H3 = some ⟨1, [bsc q], H4⟩)
    (e5 : R (.fn F.wtoSession) [spv r s u sp w jp nx a b c] H4 = some ⟨1, [spv r s3 u3 sp3 w3 jp3 nx a3 b3 c3], H5⟩)
    (e6 : R (.fn F.weqSession) [spv r s2 u2 sp2 w2 jp2 nx a2 b2 c2, spv r s3 u3 sp3 w3 jp3 nx a3 b3 c3] H5 = some ⟨1, [bsc true], H5⟩) :
    R (.fn F.wFnExactSessionOk) [spv r s u sp w jp nx a b c] H0 = some ⟨1, [bsc true], H5⟩ := by
  rw [R_eq, e_wFnExactSessionOk, hv]
  simp only [Option.bind_some, one_int, hd, cond_false]
  rw [e1]
  simp only [Option.bind_some, o_iiisssssisss]
  rw [e2]
  simp only [Option.bind_some, one_bool]
  rw [e3]
  simp only [Option.bind_some, o_iiisssssisss]
  rw [e4]
  simp only [Option.bind_some, one_bool, ne_b, cond_false]
  rw [e5]
  simp only [Option.bind_some, o_iiisssssisss]
  rw [e6]
  simp only [Option.bind_some, one_bool, Bool.not_true, cond_false]

theorem law_SessionOk : LawPure P R F.wFnExactSessionOk [Y.tlaws_Session] := by
  intro H0 ls hro hA
  obtain ⟨l1, rfl, t1⟩ : ∃ l1, ls = [l1] ∧ typed P 8 H0 Y.tlaws_Session l1 := by
    cases hA with
    | cons a h => cases h; exact ⟨_, rfl, a⟩
  obtain ⟨s, u, sp, w, jp, a, b, c, g, rfl, h, hm⟩ := open_session t1
  show ∃ H', R _ [pvT P Y.tlaws_Session _] H0 = _
  rw [pvT_struct f_Session]
  obtain ⟨v, hv, hneg | ⟨g1, g2, hs⟩⟩ := z_session h hm (left := 1048576) (by omega) (by omega)
  · refine ⟨H0, ?_⟩
    rw [R_eq, e_wFnExactSessionOk]
    rw [show R (.fn F.wszSession) [PV.agg [.int .i64 g.n.r.k, .int .i64 g.n.r.p, .int .i64 g.n.r.n, .sl s, .sl u, .sl sp, .sl w, .sl jp, .int .i64 g.j.nx, .sl a, .sl b, .sl c], isc 1048576] H0 = _ from hv]
    simp only [Option.bind_some, one_int, decide_eq_true hneg, cond_true]
  · have hts : g.n.ts.length ≤ 4611686018427387904 := by have := hs.1.1; omega
    have ho := hs.1.2.1
    obtain ⟨s1, u1, sp1, w1, jp1, a1, b1, c1, H1, e1, l1, k1⟩ := c_wtoSession h hs
    obtain ⟨H2, e2, l2⟩ := c_sSessionOk k1 ho hts
    obtain ⟨s2, u2, sp2, w2, jp2, a2, b2, c2, H3, e3, l3, k3⟩ := c_wtoSession (h.le (l1.trans l2)) hs
    obtain ⟨H4, e4, l4⟩ := c_iSessionOk k3 ho hts
    obtain ⟨s3, u3, sp3, w3, jp3, a3, b3, c3, H5, e5, l5, k5⟩ := c_wtoSession (((h.le (l1.trans l2)).le l3).le l4) hs
    have e6 := session_eq (k3.le (l4.trans l5)) k5 hs
    exact ⟨H5, calc_SessionOk (decide_eq_false (Int.not_lt.2 g1)) hv e1 e2 e3 e4 e5 e6⟩
end Go.Abs
