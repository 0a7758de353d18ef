/- Part of the proof of FnExactMakeCertificate: that for every input the law answers true and leaves what it reads as it was. Conditions: none beyond the given statement. -/
import Derived.Test.YtabkpkhjpfjpeaaGreatLabC1ToC46
set_option linter.all false
/- Contracts: an order is followed: a step. -/
namespace Go.Abs
set_option linter.all false
set_option maxRecDepth 10000

/-- Has another tensor the label? -/
def keptF (x : Int) (i j : Nat) : List LE → Nat → Bool
  | [], _ => false
  | t :: v, k => (k != i && k != j && t.l.any fun y => x == y) || keptF x i j v (k + 1)
def resL (op : List Int) (v : List LE) (i j : Nat) : List Int :=
  colF (fun _ x => if (op.any fun y => x == y) || keptF x i j v 0 then some x else none) (joinL (v.getD i ⟨0, ⟨0, 0, 0, 0, true⟩, []⟩).l (v.getD j ⟨0, ⟨0, 0, 0, 0, true⟩, []⟩).l) 0
def dropF (i j : Nat) : List LE → Nat → List LE
  | [], _ => []
  | t :: v, k => if k != i && k != j then t :: dropF i j v (k + 1) else dropF i j v (k + 1)
theorem dropF_sub (i j : Nat) : ∀ (v : List LE) (k : Nat), (dropF i j v k).Sublist v
  | [], _ => .slnil
  | t :: v, k => by
    unfold dropF
    split
    · exact .cons₂ _ (dropF_sub i j v (k + 1))
    · exact .cons _ (dropF_sub i j v (k + 1))
theorem getD_le {v : List LE} {i : Nat} (h : i < v.length) (d : LE) : v.getD i d = v[i] := by simp [List.getD_eq_getElem?_getD, h]
theorem bne_nat (a b : Nat) : (((a : Int)) != (b : Int)) = (a != b) := by
  by_cases h : a = b
  · subst h; simp
  · have h1 : (((a : Int)) != (b : Int)) = true := bne_iff_ne.2 (by omega)
    have h2 : (a != b) = true := bne_iff_ne.2 h
    rw [h1, h2]

theorem c_resultLabels_1 {H : AH} {sl : Sl} {v : List LE} (hL : LR H sl v) (hr : ∀ t ∈ v, IS H t.s t.l ∧ t.l.length ≤ 1048576) (hv : v.length ≤ 1024) (i j : Nat) (x : Int) :
    ∀ (m k : Nat), k + m = v.length → ∀ b : Bool, R (.loop F.x__impl_orderState__resultLabels 1) [isc (i : Int), isc (j : Int), isc x, bsc b, ssc sl, isc (v.length : Int), isc (k : Int)] H = some ⟨4, [bsc (b || keptF x i j (v.drop k) k)], H⟩
  | 0, k, hk, b => by
    obtain rfl : k = v.length := by omega
    rw [R_eq, e_x__impl_orderState__resultLabels_1, lt_self]
    simp [keptF]
  | m + 1, k, hk, b => by
    have hlt : k < v.length := by omega
    obtain ⟨h1, h2⟩ := hr v[k] (List.getElem_mem hlt)
    rw [R_eq, e_x__impl_orderState__resultLabels_1, lt_true hlt, w1 hlt (by omega), cond_true, hL.ld hlt, List.drop_eq_getElem_cons hlt]
    simp only [keptF, bne_nat]
    have ih := fun b => c_resultLabels_1 hL hr hv i j x m (k + 1) (by omega) b
    cases hki : (k != i) with
    | false => simp only [cond_false, Bool.false_and, Bool.false_or]; exact ih b
    | true =>
      cases hkj : (k != j) with
      | false => simp only [cond_true, cond_false, Bool.true_and, Bool.false_and, Bool.false_or]; exact ih b
      | true =>
        simp only [cond_true, Bool.true_and]
        rw [c_ihasInt h1 h2]
        simp only [Option.bind_some, one_bool]
        cases (v[k].l.any fun y => x == y) with
        | true => simp only [cond_true, Bool.true_or, Bool.or_true]; rw [ih true]; simp
        | false => simp only [cond_false, Bool.false_or]; exact ih b

theorem OS.ext {H0 H H' : AH} {bs : Nat} {D op : List Int} {so sl : Sl} {next : Nat} {v : List LE} (h : OS H0 H bs D op so sl next v) (hl : Le H H') : OS H0 H' bs D op so sl next v :=
  ⟨h.fr.ext hl, h.out.le hl, by rw [hl.get _ (List.getElem?_eq_some_iff.1 h.blk).1]; exact h.blk, h.lo, h.dl, h.op⟩
def SmallV (v : List LE) : Prop := v.length ≤ 1024 ∧ ∀ t ∈ v, t.l.length ≤ 1000
theorem OS.lab {H0 H : AH} {bs : Nat} {D op : List Int} {so sl : Sl} {next : Nat} {v : List LE} (h : OS H0 H bs D op so sl next v) {t : LE} (ht : t ∈ v) : IS H t.s t.l := h.fr.is (s := t.s) (l := t.l) (List.mem_map.2 ⟨t, ht, rfl⟩)

/-- impl.resultLabels -/
theorem c_resultLabels {H0 H : AH} {bs : Nat} {D op : List Int} {so sl : Sl} {next : Nat} {v : List LE} (h : OS H0 H bs D op so sl next v) (hs : SmallV v) (ho : op.length ≤ 1024) {i j : Nat} (hi : i < v.length) (hj : j < v.length) :
    ∃ s' H', R (.fn F.x__impl_orderState__resultLabels) [.sc (.hp bs 0), isc (i : Int), isc (j : Int)] H = some ⟨1, [ssc s'], H'⟩ ∧ Le H H' ∧ Own H.length H' s' (resL op v i j) := by
  obtain ⟨a1, a2, a3⟩ := h.at0
  have hL := h.out.lr
  have hsi := hs.2 v[i] (List.getElem_mem hi)
  have hsj := hs.2 v[j] (List.getElem_mem hj)
  obtain ⟨s14, H1, e1, l1, o1⟩ := c_ijoinLabels (h.lab (List.getElem_mem hi)) (h.lab (List.getElem_mem hj)) (by omega)
  have hjl := joinL_len v[i].l v[j].l
  have cl := collect (l := joinL v[i].l v[j].l) (H0 := H1) (F := fun n u Hc => R (.loop F.x__impl_orderState__resultLabels 0) [.sc (.hp bs 0), isc (i : Int), isc (j : Int), ssc u, ssc s14, isc ((joinL v[i].l v[j].l).length : Int), isc (n : Int)] Hc) (fin := fun u Hc => some ⟨2, [ssc u], Hc⟩)
    (fun _ x => if (op.any fun y => x == y) || keptF x i j v 0 then some x else none)
    (fun u Hc => by rw [R_eq, e_x__impl_orderState__resultLabels_0, lt_self]; rfl)
    (fun n hn u Hc acc hle hoA ha => by
      have hc := h.ext (l1.trans hle)
      have hr := hc.out.lr
      have hrd : rdB Hc bs = some (ics D ++ [.sl so, .sl sl, .int .i64 (next : Int)]) := hc.rd
      have hl2 := c_resultLabels_1 hr (fun t ht => ⟨hc.lab ht, by have := hs.2 t ht; omega⟩) hs.1 i j (joinL v[i].l v[j].l)[n] v.length 0 (by omega) (op.any fun y => (joinL v[i].l v[j].l)[n] == y)
      have hop : IS Hc so op := hc.op.le hc.fr.le
      have hst : R (.loop F.x__impl_orderState__resultLabels 0) [.sc (.hp bs 0), isc (i : Int), isc (j : Int), ssc u, ssc s14, isc ((joinL v[i].l v[j].l).length : Int), isc (n : Int)] Hc =
          cond ((op.any fun y => (joinL v[i].l v[j].l)[n] == y) || keptF (joinL v[i].l v[j].l)[n] i j v 0)
            ((newB Hc 1 [.int .i64 (joinL v[i].l v[j].l)[n]]).bind fun h38 => (rng h38.2 h38.1 0 (1 * 1)).bind fun l39 => (appB h38.2 1 8 u l39 1).bind fun m40 =>
              R (.loop F.x__impl_orderState__resultLabels 0) [.sc (.hp bs 0), isc (i : Int), isc (j : Int), ssc m40.1, ssc s14, isc ((joinL v[i].l v[j].l).length : Int), isc ((n + 1 : Nat) : Int)] m40.2)
            (R (.loop F.x__impl_orderState__resultLabels 0) [.sc (.hp bs 0), isc (i : Int), isc (j : Int), ssc u, ssc s14, isc ((joinL v[i].l v[j].l).length : Int), isc ((n + 1 : Nat) : Int)] Hc) := by
        rw [R_eq, e_x__impl_orderState__resultLabels_0, lt_true hn, w1 hn (by omega), cond_true, (o1.is.le hle).ldk hn, hrd]
        simp only [Option.bind_some, a1]
        rw [c_ihasInt hop (by omega)]
        simp only [Option.bind_some, one_bool, hrd, a2]
        rw [List.drop_zero] at hl2
        rw [hr.n]
        have hl2 : R (.loop F.x__impl_orderState__resultLabels 1) [isc (i : Int), isc (j : Int), isc (joinL v[i].l v[j].l)[n], bsc (op.any fun y => (joinL v[i].l v[j].l)[n] == y), ssc sl, isc (v.length : Int), isc 0] Hc = _ := hl2
        rw [hl2]
        simp only [Option.bind_some, Nat.beq, cond_true, nth_bool]
      by_cases hk : ((op.any fun y => (joinL v[i].l v[j].l)[n] == y) || keptF (joinL v[i].l v[j].l)[n] i j v 0) = true
      · obtain ⟨s', H', p, o, l⟩ := push_le hle hoA (by omega) (joinL v[i].l v[j].l)[n]
        refine ⟨s', H', ?_, by rw [if_pos hk]; simpa using o, l⟩
        rw [hst, hk, cond_true, p]
      · refine ⟨u, Hc, ?_, by rw [if_neg hk]; simpa using hoA, hle⟩
        rw [hst, Bool.eq_false_iff.2 hk, cond_false])
    (s0 := ⟨0, 0, 0, 0, true⟩) (H := H1) (Le.refl _) (Own.nil _ _ _)
  obtain ⟨s', H', e2, o2, l2⟩ := cl
  refine ⟨s', H', ?_, l1.trans l2, ?_⟩
  · rw [R_eq, e_x__impl_orderState__resultLabels, h.rd]
    simp only [Option.bind_some, a2]
    rw [hL.lds hi, hL.lds hj, e1]
    simp only [Option.bind_some, one_sl]
    have e2 : R (.loop F.x__impl_orderState__resultLabels 0) [.sc (.hp bs 0), isc (i : Int), isc (j : Int), ssc ⟨0, 0, 0, 0, true⟩, ssc s14, isc ((joinL v[i].l v[j].l).length : Int), isc 0] H1 = _ := e2
    rw [o1.n, e2]
    rfl
  · unfold resL
    rw [getD_le hi, getD_le hj]
    exact o2.low l1.len

/-- impl.contract: what stays -/
theorem c_contract_0 {H0 : AH} {sl : Sl} {v : List LE} (hv : v.length ≤ 1024) (i j : Nat) : ∀ (m k : Nat), k + m = v.length → ∀ (acc : List LE) (c : Sl) (H : AH), Le H0 H → LR H0 sl v → CO 2 H0.length H c (lcells acc) → acc.length ≤ k →
    ∃ c' H', R (.loop F.x__impl_orderState__contract 0) [isc (i : Int), isc (j : Int), ssc c, ssc sl, isc (v.length : Int), isc (k : Int)] H = some ⟨2, [ssc c'], H'⟩ ∧ Le H0 H' ∧ CO 2 H0.length H' c' (lcells (acc ++ dropF i j (v.drop k) k))
  | 0, k, hk, acc, c, H, hle, hL, hO, ha => by
    obtain rfl : k = v.length := by omega
    exact ⟨c, H, by rw [R_eq, e_x__impl_orderState__contract_0, lt_self]; rfl, hle, by simpa [dropF] using hO⟩
  | m + 1, k, hk, acc, c, H, hle, hL, hO, ha => by
    have hlt : k < v.length := by omega
    have hLc : LR H sl v := ⟨hL.n, hL.o, hL.rd.imp id fun h => hle.rdB h⟩
    rw [List.drop_eq_getElem_cons hlt]
    simp only [dropF]
    have hst : R (.loop F.x__impl_orderState__contract 0) [isc (i : Int), isc (j : Int), ssc c, ssc sl, isc (v.length : Int), isc (k : Int)] H =
        cond (k != i && k != j) ((newB H 2 [.int .i64 v[k].n, .sl v[k].s]).bind fun h27 => (rng h27.2 h27.1 0 (1 * 2)).bind fun l28 => (appB h27.2 2 32 c l28 1).bind fun m29 =>
          R (.loop F.x__impl_orderState__contract 0) [isc (i : Int), isc (j : Int), ssc m29.1, ssc sl, isc (v.length : Int), isc ((k + 1 : Nat) : Int)] m29.2)
        (R (.loop F.x__impl_orderState__contract 0) [isc (i : Int), isc (j : Int), ssc c, ssc sl, isc (v.length : Int), isc ((k + 1 : Nat) : Int)] H) := by
      rw [R_eq, e_x__impl_orderState__contract_0, lt_true hlt, w1 hlt (by omega), cond_true, hLc.ld hlt]
      simp only [bne_nat]
      cases (k != i) with
      | false => simp only [cond_false, Option.bind_some, Nat.beq, cond_true, nth_bool, Bool.false_and]
      | true => simp only [cond_true, Option.bind_some, Nat.beq, nth_bool, Bool.true_and]
    rw [hst]
    by_cases hc : (k != i && k != j) = true
    · have hle1 := Le.app H [⟨[.int .i64 v[k].n, .sl v[k].s], .rw, 2⟩]
      have hcn : c.n = acc.length := by have := hO.n; rw [lcells_len] at this; omega
      obtain ⟨c1, H1, e1, O1, n1, l1, f1⟩ := (hO.le hle1).push (by_ := 32) (new := [.int .i64 v[k].n, .sl v[k].s]) (by simp; have := hle.len; omega) (by omega) (by omega) rfl (by rw [hcn]; unfold most; omega)
      have hle2 : Le H0 H1 := ⟨by simp at l1; have := hle.len; omega, fun d hd => by
        have hd1 := hle.len
        rw [f1 d (by simp; omega) (by
          by_cases e : lcells acc = []
          · exact .inr e
          · rcases hO.blk with ⟨e', _⟩ | ⟨_, hlo, _⟩
            · exact absurd e' e
            · exact .inl (by omega)), hle1.get d (by omega)]
        exact hle.get d hd⟩
      have O1' : CO 2 H0.length H1 c1 (lcells (acc ++ [v[k]])) := by rw [lcells_app]; exact O1
      obtain ⟨c', H', e2, l2, O2⟩ := c_contract_0 hv i j m (k + 1) (by omega) (acc ++ [v[k]]) c1 H1 hle2 hL O1' (by simp; omega)
      refine ⟨c', H', ?_, l2, by rw [if_pos hc]; simpa using O2⟩
      rw [hc, cond_true]
      have hnb : newB H 2 [.int .i64 v[k].n, .sl v[k].s] = some (H.length, H ++ [⟨[.int .i64 v[k].n, .sl v[k].s], .rw, 2⟩]) := rfl
      rw [hnb]
      simp only [Option.bind_some]
      rw [rng_new (cs := [.int .i64 v[k].n, .sl v[k].s]) (z := 2) (m := 1 * 2) (by simp) rfl (by omega)]
      simp only [Option.bind_some]
      rw [e1]
      exact e2
    · obtain ⟨c', H', e2, l2, O2⟩ := c_contract_0 hv i j m (k + 1) (by omega) acc c H hle hL hO (by omega)
      exact ⟨c', H', by rw [Bool.eq_false_iff.2 hc, cond_false]; exact e2, l2, by rw [if_neg hc]; exact O2⟩

theorem lrows_sub {v w : List LE} (h : v.Sublist w) : (lrows v).Sublist (lrows w) := h.map _
/-- The state behind a step. -/
def stepV (op : List Int) (v : List LE) (next i j : Nat) (s : Sl) : List LE := dropF i j v 0 ++ [⟨(next : Int), s, resL op v i j⟩]
theorem put_cell {H : AH} {b o z : Nat} {cs : List Sc} (hb : H[b]? = some ⟨cs, .rw, z⟩) (ho : o < cs.length) (v : Sc) : putR H b o [v] = some (H.set b ⟨cs.set o v, .rw, z⟩) := putR_one hb ho
/-- impl.contract -/
theorem c_contract' {H0 H : AH} {bs : Nat} {D op : List Int} {so sl : Sl} {next : Nat} {v : List LE} (h : OS H0 H bs D op so sl next v) (hs : SmallV v) (ho : op.length ≤ 1024) (hnx : next ≤ 4096) {i j : Nat} (hi : i < v.length) (hj : j < v.length) :
    ∃ sl' s H', R (.fn F.x__impl_orderState__contract) [.sc (.hp bs 0), isc (i : Int), isc (j : Int)] H = some ⟨1, [.agg [.int .i64 v[i].n, .int .i64 v[j].n]], H'⟩ ∧ OS H0 H' bs D op so sl' (next + 1) (stepV op v next i j s) ∧ H.length ≤ H'.length ∧ (∀ d, d < H.length → d ≠ bs → H'[d]? = H[d]?) ∧ (resL op v i j = [] ∨ H.length ≤ s.b) := by
  obtain ⟨a1, a2, a3⟩ := h.at0
  have hL := h.out.lr
  have hbl : bs < H.length := (List.getElem?_eq_some_iff.1 h.blk).1
  obtain ⟨s16, H1, e1, l1, o1⟩ := c_resultLabels h hs ho hi hj
  have h1 := h.ext l1
  have htake : H1.take H.length = H.take H.length := List.ext_getElem? fun d => by
    rw [List.getElem?_take, List.getElem?_take]
    split
    · rename_i hd; exact l1.get d hd
    · rfl
  obtain ⟨c, H2, e2, l2, O2⟩ := c_contract_0 (H0 := H1) (sl := sl) hs.1 i j v.length 0 (by omega) [] ⟨0, 0, 0, 0, true⟩ H1 (Le.refl _) h1.out.lr (CO.nil _ _ _ _) (by simp)
  simp only [List.drop_zero, List.nil_append] at O2
  have h2 := h1.ext l2
  have F2 := (h1.fr.ext l2)
  -- the new row
  have hdl : (dropF i j v 0).length ≤ 1024 := Nat.le_trans (dropF_sub i j v 0).length_le hs.1
  have hcn : c.n = (dropF i j v 0).length := by have := O2.n; rw [lcells_len] at this; omega
  have hle3 := Le.app H2 [⟨[.int .i64 (next : Int), .sl s16], .rw, 2⟩]
  obtain ⟨c3, H3, e3, O3, n3, l3, f3⟩ := (O2.le hle3).push (by_ := 32) (new := [.int .i64 (next : Int), .sl s16]) (by simp; have := l2.len; omega) (by omega) (by omega) rfl (by rw [hcn]; unfold most; omega)
  -- what was there before stays
  have keep3 : ∀ d, d < H1.length → H3[d]? = H1[d]? := fun d hd => by
    have hd2 := l2.len
    rw [f3 d (by simp; omega) (by
      by_cases e : lcells (dropF i j v 0) = []
      · exact .inr e
      · rcases O2.blk with ⟨e', _⟩ | ⟨_, hlo, _⟩
        · exact absurd e' e
        · exact .inl (by omega)), hle3.get d (by omega)]
    exact l2.get d hd
  have hle13 : Le H1 H3 := ⟨by simp at l3; have := l2.len; omega, keep3⟩
  have h3 := h1.ext hle13
  have hb3 : H3[bs]? = some ⟨ics D ++ [.sl so, .sl sl, .int .i64 (next : Int)], .rw, 103⟩ := h3.blk
  have hcl : (ics D ++ [Sc.sl so, Sc.sl sl, Sc.int .i64 (next : Int)]).length = 103 := by simp [h.dl]
  have hD : (ics D).length = 100 := by simp [h.dl]
  have hp1 : putR H3 bs (0 + 101) [.sl c3] = some (H3.set bs ⟨ics D ++ [.sl so, .sl c3, .int .i64 (next : Int)], .rw, 103⟩) := by
    rw [put_cell hb3 (by omega)]
    congr 4
    rw [List.set_append_right _ _ (by omega), hD]; rfl
  have hp2 : putR (H3.set bs ⟨ics D ++ [.sl so, .sl c3, .int .i64 (next : Int)], .rw, 103⟩) bs (0 + 102) [.int .i64 ((next + 1 : Nat) : Int)] = some (H3.set bs ⟨ics D ++ [.sl so, .sl c3, .int .i64 ((next + 1 : Nat) : Int)], .rw, 103⟩) := by
    rw [put_cell (set_get hb3) (by simp [h.dl]), set_set]
    congr 4
    rw [List.set_append_right _ _ (by omega), hD]; rfl
  have hw : IntKind.wrap .i64 ((next : Int) + 1) = ((next + 1 : Nat) : Int) := by rw [wrap_id] <;> omega
  have hrd4 : rdB (H3.set bs ⟨ics D ++ [.sl so, .sl c3, .int .i64 (next : Int)], .rw, 103⟩) bs = some (ics D ++ [.sl so, .sl c3, .int .i64 (next : Int)]) := by unfold rdB; rw [set_get hb3]; rfl
  have hi4 : intAt .i64 (ics D ++ [.sl so, .sl c3, .int .i64 (next : Int)]) (0 + 102) = some (next : Int) := intAt_get (by rw [List.getElem?_append_right (by omega), hD]; rfl)
  have hOne : ∀ {s : Sl} {l : List Int}, Own H0.length H3 s l → l ≠ [] → s.b ≠ bs := fun ho hl e => by
    have := ho.blk' hl
    rw [e, hb3] at this
    simp at this
  refine ⟨c3, s16, H3.set bs ⟨ics D ++ [.sl so, .sl c3, .int .i64 ((next + 1 : Nat) : Int)], .rw, 103⟩, ?_, ?_, ?_, ?_, ?_⟩
  · rw [R_eq, e_x__impl_orderState__contract, h.rd]
    simp only [Option.bind_some, a2]
    rw [hL.ldn hi, hL.ldn hj, decide_eq_true hbl]
    simp only [cond_true, Option.bind_some, a3]
    rw [e1]
    simp only [Option.bind_some, one_sl]
    rw [decide_eq_true htake, cond_true, h1.rd]
    simp only [Option.bind_some, a2]
    rw [hL.n]
    have e2 : R (.loop F.x__impl_orderState__contract 0) [isc (i : Int), isc (j : Int), ssc ⟨0, 0, 0, 0, true⟩, ssc sl, isc (v.length : Int), isc 0] H1 = _ := e2
    rw [e2]
    simp only [Option.bind_some, Nat.beq, cond_true, nth_sl]
    have hnb : newB H2 2 [.int .i64 (next : Int), .sl s16] = some (H2.length, H2 ++ [⟨[.int .i64 (next : Int), .sl s16], .rw, 2⟩]) := rfl
    rw [hnb]
    simp only [Option.bind_some]
    rw [rng_new (cs := [.int .i64 (next : Int), .sl s16]) (z := 2) (m := 1 * 2) (by simp) rfl (by omega)]
    simp only [Option.bind_some]
    rw [e3]
    simp only [Option.bind_some]
    rw [hp1]
    simp only [Option.bind_some]
    rw [hrd4]
    simp only [Option.bind_some, hi4]
    rw [hw, hp2]
    rfl
  · -- the frame
    have F3 : Fr H0 H3 (lrows (stepV op v next i j s16)) := by
      have A := h.fr.new l1 o1
      have B := (A.sub (qs := (s16, resL op v i j) :: lrows (dropF i j v 0)) (.cons₂ _ (lrows_sub (dropF_sub i j v 0)))).ext hle13
      refine B.perm ?_
      unfold stepV lrows
      rw [List.map_append]
      exact List.perm_append_comm
    refine ⟨⟨F3.le.set h.lo, F3.rows.frame fun p hp hne => List.getElem?_set_ne (Ne.symm (hOne (F3.rows.own p hp) hne))⟩, ?_, set_get hb3, h.lo, h.dl, h.op⟩
    have hcells : lcells (stepV op v next i j s16) = lcells (dropF i j v 0) ++ [.int .i64 (next : Int), .sl s16] := by unfold stepV; rw [lcells_app]; rfl
    rw [hcells]
    have O3' : CO 2 H0.length H3 c3 (lcells (dropF i j v 0) ++ [.int .i64 (next : Int), .sl s16]) := ⟨O3.o, O3.n, O3.c, O3.blk.imp id fun ⟨a, b, c⟩ => ⟨a, Nat.le_trans h1.fr.le.len b, c⟩⟩
    refine O3'.keep fun hc => List.getElem?_set_ne fun e => ?_
    rcases O3'.blk with ⟨e', _⟩ | ⟨_, _, hb⟩
    · exact absurd e' hc
    · rw [← e, hb3] at hb
      simp at hb
  · have a := l1.len
    have b := hle13.len
    simp only [List.length_set]; omega
  · intro d hd hne
    have a := l1.len
    rw [List.getElem?_set_ne (Ne.symm hne), keep3 d (by omega), l1.get d hd]
  · exact o1.lo
/-- impl.contract -/
theorem c_contract {H0 H : AH} {bs : Nat} {D op : List Int} {so sl : Sl} {next : Nat} {v : List LE} (h : OS H0 H bs D op so sl next v) (hs : SmallV v) (ho : op.length ≤ 1024) (hnx : next ≤ 4096) {i j : Nat} (hi : i < v.length) (hj : j < v.length) :
    ∃ sl' s H', R (.fn F.x__impl_orderState__contract) [.sc (.hp bs 0), isc (i : Int), isc (j : Int)] H = some ⟨1, [.agg [.int .i64 v[i].n, .int .i64 v[j].n]], H'⟩ ∧ OS H0 H' bs D op so sl' (next + 1) (stepV op v next i j s) := by
  obtain ⟨sl', s, H', e, O, _⟩ := c_contract' h hs ho hnx hi hj
  exact ⟨sl', s, H', e, O⟩
end Go.Abs
/- Contracts: orders (impl). -/
namespace Go.Abs
set_option linter.all false
set_option maxRecDepth 10000

/-- impl.follow -/
theorem c_follow {H0 H : AH} {bs : Nat} {D op : List Int} {so sl : Sl} {next : Nat} {v : List LE} (h : OS H0 H bs D op so sl next v) (hs : SmallV v) (ho : op.length ≤ 1024) (hnx : next ≤ 4096) (a b : Int) :
    ((placeF v a 0 < 0 ∨ placeF v b 0 < 0 ∨ a ≥ b) ∧ R (.fn F.x__impl_orderState__follow) [.sc (.hp bs 0), .agg [.int .i64 a, .int .i64 b]] H = some ⟨1, [bsc false], H⟩) ∨
    (∃ i j : Nat, placeF v a 0 = i ∧ placeF v b 0 = j ∧ a < b ∧ i < v.length ∧ j < v.length ∧ ∃ sl' s H', R (.fn F.x__impl_orderState__follow) [.sc (.hp bs 0), .agg [.int .i64 a, .int .i64 b]] H = some ⟨1, [bsc true], H'⟩ ∧ OS H0 H' bs D op so sl' (next + 1) (stepV op v next i j s)) := by
  have pa := c_place h hs.1 a
  have pb := c_place h hs.1 b
  have hst : R (.fn F.x__impl_orderState__follow) [.sc (.hp bs 0), .agg [.int .i64 a, .int .i64 b]] H = cond (decide (placeF v a 0 < 0)) (some ⟨1, [bsc false], H⟩) (cond (decide (placeF v b 0 < 0)) (some ⟨1, [bsc false], H⟩) (cond (decide (a ≥ b)) (some ⟨1, [bsc false], H⟩)
      ((R (.fn F.x__impl_orderState__contract) [.sc (.hp bs 0), isc (placeF v a 0), isc (placeF v b 0)] H).bind fun r9 => (oneP r9.vs).bind fun p10 => p10.agg?.bind fun l11 => cond (decide (l11.length = 2)) ((intAt .i64 l11 0).bind fun n12 => (intAt .i64 l11 1).bind fun n13 => some ⟨1, [bsc true], r9.H⟩) none))) := by
    rw [R_eq, e_x__impl_orderState__follow, pa]
    simp only [Option.bind_some, one_int]
    rw [pb]
    simp only [Option.bind_some, one_int]
  by_cases h1 : placeF v a 0 < 0
  · exact .inl ⟨.inl h1, by rw [hst, decide_eq_true h1]; rfl⟩
  by_cases h2 : placeF v b 0 < 0
  · exact .inl ⟨.inr (.inl h2), by rw [hst, decide_eq_false h1, decide_eq_true h2]; rfl⟩
  by_cases h3 : a ≥ b
  · exact .inl ⟨.inr (.inr h3), by rw [hst, decide_eq_false h1, decide_eq_false h2, decide_eq_true h3]; rfl⟩
  have ra := placeF_lo v a 0
  have rb := placeF_lo v b 0
  obtain ⟨i, hi⟩ : ∃ i : Nat, placeF v a 0 = i := ⟨(placeF v a 0).toNat, by omega⟩
  obtain ⟨j, hj⟩ : ∃ j : Nat, placeF v b 0 = j := ⟨(placeF v b 0).toNat, by omega⟩
  have hil : i < v.length := by omega
  have hjl : j < v.length := by omega
  obtain ⟨sl', s, H', e, O⟩ := c_contract h hs ho hnx hil hjl
  refine .inr ⟨i, j, hi, hj, by omega, hil, hjl, sl', s, H', ?_, O⟩
  rw [hst, decide_eq_false h1, decide_eq_false h2, decide_eq_false h3, hi, hj]
  simp only [cond_false]
  rw [e]
  simp only [Option.bind_some, o_ii]

structure Sp where
  a : Int
  b : Int
def S2 (H : AH) (s : Sl) (ps : List Sp) : Prop := s.n = ps.length ∧ s.n ≤ s.c ∧ (ps = [] ∨ ∃ cs, rdB H s.b = some cs ∧ ∀ (i : Nat) g, ps[i]? = some g → cs[s.o + i * 2]? = some (.int .i64 g.a) ∧ cs[s.o + i * 2 + 1]? = some (.int .i64 g.b))
theorem S2.le {H H' : AH} (h : Go.Abs.Le H H') {s : Sl} {ps : List Sp} (k : S2 H s ps) : S2 H' s ps := ⟨k.1, k.2.1, k.2.2.imp id fun ⟨cs, h1, h2⟩ => ⟨cs, h.rdB h1, h2⟩⟩
theorem S2.ld {H : AH} {s : Sl} {ps : List Sp} (h : S2 H s ps) {i : Nat} (hi : i < ps.length) {α : Type} (k : Int → Int → Option α) :
    ((ixA s (i : Int) 2).bind fun o => (rdB H s.b).bind fun q => (intAt .i64 q o).bind fun x => (intAt .i64 q (o + 1)).bind fun y => k x y) = k ps[i].a ps[i].b := by
  obtain ⟨h1, h2, e | ⟨cs, hc, hg⟩⟩ := h
  · rw [e] at hi; simp at hi
  · obtain ⟨g1, g2⟩ := hg i _ (List.getElem?_eq_getElem hi)
    rw [ixA_nat (by omega)]
    simp only [Option.bind_some, hc, intAt_get g1, intAt_get g2]

/-- All labels that are there. -/
def totV (v : List LE) : Nat := (v.map fun t => t.l.length).sum
theorem totV_mem {v : List LE} {t : LE} (h : t ∈ v) : t.l.length ≤ totV v := by
  unfold totV
  induction v with
  | nil => simp at h
  | cons x v ih =>
    simp only [List.map_cons, List.sum_cons]
    rcases List.mem_cons.1 h with rfl | h
    · omega
    · have := ih h; omega
theorem dropF_ge (i j : Nat) : ∀ (v : List LE) (k : Nat), i < k → j < k → dropF i j v k = v
  | [], _, _, _ => rfl
  | t :: v, k, h1, h2 => by
    unfold dropF
    have a1 : (k != i) = true := bne_iff_ne.2 (by omega)
    have a2 : (k != j) = true := bne_iff_ne.2 (by omega)
    rw [a1, a2, dropF_ge i j v (k + 1) (by omega) (by omega)]
    rfl
theorem dropF_one (i j : Nat) : ∀ (v : List LE) (k : Nat) (hk : i < k) (hj : k ≤ j) (hl : j - k < v.length), totV (dropF i j v k) + v[j - k].l.length = totV v ∧ (dropF i j v k).length + 1 = v.length
  | [], k, _, _, hl => by simp at hl
  | t :: v, k, hk, hj, hl => by
    have a1 : (k != i) = true := bne_iff_ne.2 (by omega)
    by_cases e : k = j
    · subst e
      unfold dropF
      have a2 : (k != k) = false := by simp
      rw [a1, a2]
      simp only [Bool.and_false, Bool.false_eq_true, if_false, Nat.sub_self, List.getElem_cons_zero]
      rw [dropF_ge i k v (k + 1) (by omega) (by omega)]
      simp [totV]; omega
    · unfold dropF
      have a2 : (k != j) = true := bne_iff_ne.2 e
      rw [a1, a2]
      simp only [Bool.and_self, if_true]
      have hs : j - k = (j - (k + 1)) + 1 := by omega
      obtain ⟨g1, g2⟩ := dropF_one i j v (k + 1) (by omega) (by omega) (by simp at hl; omega)
      have hget : (t :: v)[j - k] = v[j - (k + 1)]'(by simp at hl; omega) := by simp [hs]
      rw [hget]
      simp only [totV, List.map_cons, List.sum_cons, List.length_cons] at g1 ⊢
      omega
theorem dropF_comm (i j : Nat) : ∀ (v : List LE) (k : Nat), dropF i j v k = dropF j i v k
  | [], _ => rfl
  | t :: v, k => by
    unfold dropF
    rw [dropF_comm i j v (k + 1), Bool.and_comm]
theorem dropF_two (i j : Nat) : ∀ (v : List LE) (k : Nat) (hi : k ≤ i) (hij : i < j) (hl : j - k < v.length), totV (dropF i j v k) + (v[i - k]'(by omega)).l.length + v[j - k].l.length = totV v ∧ (dropF i j v k).length + 2 = v.length
  | [], k, _, _, hl => by simp at hl
  | t :: v, k, hi, hij, hl => by
    by_cases e : k = i
    · subst e
      unfold dropF
      have a1 : (k != k) = false := by simp
      rw [a1]
      simp only [Bool.false_and, Bool.false_eq_true, if_false, Nat.sub_self, List.getElem_cons_zero]
      have hs : j - k = (j - (k + 1)) + 1 := by omega
      obtain ⟨g1, g2⟩ := dropF_one k j v (k + 1) (by omega) (by omega) (by simp at hl; omega)
      have hget : (t :: v)[j - k] = v[j - (k + 1)]'(by simp at hl; omega) := by simp [hs]
      rw [hget]
      simp only [totV, List.map_cons, List.sum_cons, List.length_cons] at g1 ⊢
      omega
    · unfold dropF
      have a1 : (k != i) = true := bne_iff_ne.2 e
      have a2 : (k != j) = true := bne_iff_ne.2 (by omega)
      rw [a1, a2]
      simp only [Bool.and_self, if_true]
      have hs : j - k = (j - (k + 1)) + 1 := by omega
      have hs2 : i - k = (i - (k + 1)) + 1 := by omega
      obtain ⟨g1, g2⟩ := dropF_two i j v (k + 1) (by omega) hij (by simp at hl; omega)
      have hget : (t :: v)[j - k] = v[j - (k + 1)]'(by simp at hl; omega) := by simp [hs]
      have hget2 : (t :: v)[i - k]'(by omega) = v[i - (k + 1)]'(by simp at hl; omega) := by simp [hs2]
      rw [hget, hget2]
      simp only [totV, List.map_cons, List.sum_cons, List.length_cons] at g1 ⊢
      omega
theorem resL_len (op : List Int) {v : List LE} {i j : Nat} (hi : i < v.length) (hj : j < v.length) : (resL op v i j).length ≤ v[i].l.length + v[j].l.length := by
  unfold resL
  rw [getD_le hi, getD_le hj]
  exact Nat.le_trans colF_len (joinL_len _ _)
theorem stepV_tot (op : List Int) {v : List LE} {next i j : Nat} (s : Sl) (hi : i < v.length) (hj : j < v.length) (hij : i ≠ j) : totV (stepV op v next i j s) ≤ totV v ∧ (stepV op v next i j s).length + 1 = v.length := by
  have hr := resL_len op hi hj
  have hs : totV (stepV op v next i j s) = totV (dropF i j v 0) + (resL op v i j).length := by simp [stepV, totV]
  have hl : (stepV op v next i j s).length = (dropF i j v 0).length + 1 := by simp [stepV]
  rcases Nat.lt_or_gt_of_ne hij with h | h
  · obtain ⟨g1, g2⟩ := dropF_two i j v 0 (by omega) h (by omega)
    simp only [Nat.sub_zero] at g1
    omega
  · obtain ⟨g1, g2⟩ := dropF_two j i v 0 (by omega) h (by omega)
    rw [dropF_comm] at g1 g2
    simp only [Nat.sub_zero] at g1
    omega
theorem placeF_at : ∀ (v : List LE) (n : Int) (k i : Nat), placeF v n k = (i : Int) → ∃ h : i - k < v.length, k ≤ i ∧ v[i - k].n = n
  | [], n, k, i, h => by simp [placeF] at h
  | x :: v, n, k, i, h => by
    unfold placeF at h
    split at h
    · rename_i he
      have : i = k := by omega
      subst this
      exact ⟨by simp, Nat.le_refl _, by simpa using he⟩
    · obtain ⟨h1, h2, h3⟩ := placeF_at v n (k + 1) i h
      have hs : i - k = (i - (k + 1)) + 1 := by omega
      exact ⟨by simp; omega, by omega, by simp [hs, h3]⟩
theorem placeF_neg : ∀ (v : List LE) (n : Int) (k : Nat), placeF v n k < 0 ↔ n ∉ v.map (·.n)
  | [], n, k => by simp [placeF]
  | x :: v, n, k => by
    unfold placeF
    split
    · rename_i he
      have : x.n = n := by simpa using he
      simp [this]
    · rename_i he
      have : ¬ x.n = n := by simpa using he
      rw [placeF_neg v n (k + 1)]
      simp [Ne.symm this]

/-- An order is followed: by the numbers that are there. -/
def orderN : List Int → Int → List Sp → Bool
  | _, _, [] => true
  | ns, nx, p :: ps => if p.a ∈ ns ∧ p.b ∈ ns ∧ p.a < p.b then orderN (ns.filter (fun x => x != p.a && x != p.b) ++ [nx]) (nx + 1) ps else false
theorem dropF_nums {i j : Nat} {a b : Int} : ∀ (v : List LE) (k : Nat), (v.map (·.n)).Nodup → (∀ (m : Nat) t, v[m]? = some t → ((m + k = i ↔ t.n = a) ∧ (m + k = j ↔ t.n = b))) → (dropF i j v k).map (·.n) = (v.map (·.n)).filter (fun x => x != a && x != b)
  | [], _, _, _ => rfl
  | t :: v, k, hd, h => by
    obtain ⟨h1, h2⟩ := h 0 t (by simp)
    have ih := dropF_nums (i := i) (j := j) (a := a) (b := b) v (k + 1) (by simp at hd; exact hd.2) (fun m u hu => by
      have := h (m + 1) u (by simpa using hu)
      have e : m + 1 + k = m + (k + 1) := by omega
      rw [e] at this; exact this)
    unfold dropF
    rw [List.map_cons, List.filter_cons]
    have e1 : (k != i) = (t.n != a) := by
      rw [Bool.eq_iff_iff, bne_iff_ne, bne_iff_ne]
      rw [Nat.zero_add] at h1
      exact not_congr h1
    have e2 : (k != j) = (t.n != b) := by
      rw [Bool.eq_iff_iff, bne_iff_ne, bne_iff_ne]
      rw [Nat.zero_add] at h2
      exact not_congr h2
    rw [e1, e2]
    split
    · rw [List.map_cons, ih]
    · exact ih
theorem nodup_at {v : List LE} (hd : (v.map (·.n)).Nodup) {i : Nat} (hi : i < v.length) {a : Int} (ha : v[i].n = a) (m : Nat) (t : LE) (ht : v[m]? = some t) : m = i ↔ t.n = a := by
  constructor
  · intro e; subst e
    rw [List.getElem?_eq_getElem hi] at ht
    cases ht; exact ha
  · intro e
    obtain ⟨hm, rfl⟩ := List.getElem?_eq_some_iff.1 ht
    rw [List.Nodup, List.pairwise_iff_getElem] at hd
    rcases Nat.lt_trichotomy m i with h | h | h
    · have := hd m i (by simpa using hm) (by simpa using hi) h
      simp [ha, e] at this
    · exact h
    · have := hd i m (by simpa using hi) (by simpa using hm) h
      simp [ha, e] at this
/-- impl.OrderOk: the steps -/
theorem c_iOrderOk_0 {H0 : AH} {bs : Nat} {D op : List Int} {so sp : Sl} {ps : List Sp} (hp : S2 H0 sp ps) (hpl : ps.length ≤ 1024) (ho : op.length ≤ 1024) :
    ∀ (k i : Nat) (H : AH) (sl : Sl) (next : Nat) (v : List LE), i + k = ps.length → OS H0 H bs D op so sl next v → v.length ≤ 1024 → totV v ≤ 1000 → next ≤ 2048 + i → (v.map (·.n)).Nodup → (∀ t ∈ v, t.n < (next : Int)) →
      ∃ H', R (.loop F.iOrderOk 0) [.sc (.hp bs 0), ssc sp, isc (ps.length : Int), isc (i : Int)] H = cond (orderN (v.map (·.n)) next (ps.drop i)) (some ⟨2, [], H'⟩) (some ⟨1, [bsc false], H'⟩) ∧ Go.Abs.Le H0 H'
  | 0, i, H, sl, next, v, hi, hO, hv, ht, hn, hd, hx => by
    obtain rfl : i = ps.length := by omega
    refine ⟨H, ?_, hO.fr.le⟩
    rw [R_eq, e_iOrderOk_0, lt_self]
    simp [orderN]
  | k + 1, i, H, sl, next, v, hi, hO, hv, ht, hn, hd, hx => by
    have hlt : i < ps.length := by omega
    have hsv : SmallV v := ⟨hv, fun t h => by have := totV_mem h; omega⟩
    rw [List.drop_eq_getElem_cons hlt]
    simp only [orderN]
    rcases c_follow hO hsv ho (by omega) ps[i].a ps[i].b with ⟨hbad, e⟩ | ⟨p, q, hpa, hqb, hab, hpl', hql', sl', s, H', e, O⟩
    · have hno : ¬ (ps[i].a ∈ v.map (·.n) ∧ ps[i].b ∈ v.map (·.n) ∧ ps[i].a < ps[i].b) := by
        rintro ⟨h1, h2, h3⟩
        rcases hbad with h | h | h
        · exact (placeF_neg v _ 0).1 h h1
        · exact (placeF_neg v _ 0).1 h h2
        · omega
      refine ⟨H, ?_, hO.fr.le⟩
      rw [if_neg hno, R_eq, e_iOrderOk_0, lt_true hlt, w1 hlt (by omega), cond_true, (hp.le hO.fr.le).ld hlt, e]
      simp only [Option.bind_some, one_bool, Bool.not_false, cond_true, cond_false]
    · obtain ⟨hp1, _, hp2⟩ := placeF_at v _ 0 p hpa
      obtain ⟨hq1, _, hq2⟩ := placeF_at v _ 0 q hqb
      simp only [Nat.sub_zero] at hp2 hq2
      have hpq : p ≠ q := fun e => by subst e; omega
      have hyes : ps[i].a ∈ v.map (·.n) ∧ ps[i].b ∈ v.map (·.n) ∧ ps[i].a < ps[i].b := ⟨List.mem_map.2 ⟨v[p], List.getElem_mem hpl', hp2⟩, List.mem_map.2 ⟨v[q], List.getElem_mem hql', hq2⟩, hab⟩
      obtain ⟨g1, g2⟩ := stepV_tot op (next := next) s hpl' hql' hpq
      have hnums : (stepV op v next p q s).map (·.n) = (v.map (·.n)).filter (fun x => x != ps[i].a && x != ps[i].b) ++ [(next : Int)] := by
        unfold stepV
        rw [List.map_append, dropF_nums v 0 hd fun m t hm => ⟨by rw [Nat.add_zero]; exact nodup_at hd hpl' hp2 m t hm, by rw [Nat.add_zero]; exact nodup_at hd hql' hq2 m t hm⟩]
        rfl
      have hd' : ((stepV op v next p q s).map (·.n)).Nodup := by
        rw [hnums, List.nodup_append]
        refine ⟨hd.filter _, by simp, fun x hx1 y hy e => ?_⟩
        simp at hy
        have := (List.mem_filter.1 hx1).1
        obtain ⟨t, ht1, ht2⟩ := List.mem_map.1 this
        have := hx t ht1
        omega
      have hx' : ∀ t ∈ stepV op v next p q s, t.n < ((next + 1 : Nat) : Int) := fun t htm => by
        unfold stepV at htm
        rcases List.mem_append.1 htm with h | h
        · have := hx t ((dropF_sub p q v 0).subset h); omega
        · simp at h; subst h; show (next : Int) < _; omega
      obtain ⟨H2, e2, l2⟩ := c_iOrderOk_0 hp hpl ho k (i + 1) H' sl' (next + 1) (stepV op v next p q s) (by omega) O (by omega) (by omega) (by omega) hd' hx'
      refine ⟨H2, ?_, l2⟩
      rw [if_pos hyes, R_eq, e_iOrderOk_0, lt_true hlt, w1 hlt (by omega), cond_true, (hp.le hO.fr.le).ld hlt, e]
      simp only [Option.bind_some, one_bool, Bool.not_true, cond_false]
      rw [e2, hnums]
      rfl
end Go.Abs
/- Contracts: orders: the start (impl); the reference's check; they agree. -/
namespace Go.Abs
set_option linter.all false
set_option maxRecDepth 10000

theorem zc_os : zc P Y.timpl_orderState = ics (List.replicate 100 0) ++ [.sl ⟨0, 0, 0, 0, true⟩, .sl ⟨0, 0, 0, 0, true⟩, .int .i64 0] := by kernel_rfl
theorem fill_os {X : List Sc} (hX : X.length = 100) (so : Sl) (m : Int) : fillB [(0, 100), (100, 1), (101, 1), (102, 1)] (zc P Y.timpl_orderState) [(0, .agg X), (1, .sc (.sl so)), (3, .sc (.int .i64 m))] = some (X ++ [.sl so, .sl ⟨0, 0, 0, 0, true⟩, .int .i64 m]) := by
  rw [zc_os]
  have hz : (ics (List.replicate 100 0)).length = 100 := by simp
  have h0 : setAll (ics (List.replicate 100 0) ++ [Sc.sl ⟨0, 0, 0, 0, true⟩, Sc.sl ⟨0, 0, 0, 0, true⟩, Sc.int .i64 0]) 0 X = X ++ [Sc.sl ⟨0, 0, 0, 0, true⟩, Sc.sl ⟨0, 0, 0, 0, true⟩, Sc.int .i64 0] := by
    rw [setAll_all _ _ _ (by simp only [List.length_append, hz, hX, List.length_cons, List.length_nil]; omega), hX]
    simp only [List.take_zero, List.nil_append, Nat.zero_add]
    rw [List.drop_append, hz, List.drop_eq_nil_of_le (by omega)]
    simp
  have h1 : (X ++ [Sc.sl ⟨0, 0, 0, 0, true⟩, Sc.sl ⟨0, 0, 0, 0, true⟩, Sc.int .i64 0]).set 100 (.sl so) = X ++ [Sc.sl so, Sc.sl ⟨0, 0, 0, 0, true⟩, Sc.int .i64 0] := by
    rw [List.set_append_right _ _ (by omega), hX]; rfl
  have h2 : (X ++ [Sc.sl so, Sc.sl ⟨0, 0, 0, 0, true⟩, Sc.int .i64 0]).set 102 (.int .i64 m) = X ++ [Sc.sl so, Sc.sl ⟨0, 0, 0, 0, true⟩, Sc.int .i64 m] := by
    rw [List.set_append_right _ _ (by omega), hX]; rfl
  have b1 : Nat.beq X.length 100 = true := by rw [hX]; rfl
  have b2 : ∀ l : List Sc, l.length = 103 → Nat.ble (0 + 100) l.length = true := fun l h => by rw [h]; rfl
  have b3 : ∀ l : List Sc, l.length = 103 → Nat.ble (100 + 1) l.length = true := fun l h => by rw [h]; rfl
  have b4 : ∀ l : List Sc, l.length = 103 → Nat.ble (102 + 1) l.length = true := fun l h => by rw [h]; rfl
  have l1 : (ics (List.replicate 100 0) ++ [Sc.sl ⟨0, 0, 0, 0, true⟩, Sc.sl ⟨0, 0, 0, 0, true⟩, Sc.int .i64 0]).length = 103 := by simp only [List.length_append, hz, List.length_cons, List.length_nil]
  have l2 : ∀ a b c : Sc, (X ++ [a, b, c]).length = 103 := fun a b c => by simp only [List.length_append, hX, List.length_cons, List.length_nil]
  unfold fillB
  simp only [fillC, List.getElem?_cons_zero, List.getElem?_cons_succ, PV.cells, b1, b2 _ l1, Bool.and_self, if_true, h0, List.length_cons, List.length_nil, Nat.beq, b3 _ (l2 _ _ _), setAll, h1, b4 _ (l2 _ _ _), h2]

/-- impl.startState: the tensors -/
theorem c_istartState_0 {H0 : AH} {bs : Nat} {D op : List Int} {so st : Sl} {ts : List Tn} (hT : T3 H0 st ts) (hl : ts.length ≤ 12) (htl : ∀ t ∈ ts, t.L.length ≤ 12) :
    ∀ (k i : Nat) (H : AH) (sl : Sl) (v : List LE), i + k = ts.length → OS H0 H bs D op so sl ts.length v → v.map (fun t => (t.n, t.l)) = ((ts.take i).zipIdx).map (fun x => ((x.2 : Int), x.1.L)) →
      ∃ sl' v' H', R (.loop F.istartState 0) [.sc (.hp bs 0), ssc st, isc (ts.length : Int), isc (i : Int)] H = some ⟨2, [], H'⟩ ∧ OS H0 H' bs D op so sl' ts.length v' ∧ v'.map (fun t => (t.n, t.l)) = (ts.zipIdx).map (fun x => ((x.2 : Int), x.1.L))
  | 0, i, H, sl, v, hi, hO, hv => by
    obtain rfl : i = ts.length := by omega
    rw [List.take_of_length_le (Nat.le_refl _)] at hv
    exact ⟨sl, v, H, by rw [R_eq, e_istartState_0, lt_self]; rfl, hO, hv⟩
  | k + 1, i, H, sl, v, hi, hO, hv => by
    have hlt : i < ts.length := by omega
    obtain ⟨a1, a2, a3⟩ := hO.at0
    have hbl : bs < H.length := (List.getElem?_eq_some_iff.1 hO.blk).1
    have hvl : v.length = i := by
      have := congrArg List.length hv
      simp at this; omega
    obtain ⟨a, b, c, hTt, hk⟩ := (hT.le hO.fr.le).ld hlt
    have hle1 := Go.Abs.Le.app H [resB]
    obtain ⟨s19, H1, e1, l1, o1⟩ := c_icopyInts (hTt.L.le hle1) (by have := htl _ (List.getElem_mem hlt); omega)
    have hle := hle1.trans l1
    have hres : H1[H.length]? = some resB := by rw [l1.get _ (by simp)]; simp
    have hl1 : H.length < H1.length := by have := l1.len; simp at this; omega
    have htake : H1.take H.length = (reserve H 1).take H.length := List.ext_getElem? fun d => by
      rw [List.getElem?_take, List.getElem?_take]
      split
      · rename_i hd
        rw [l1.get _ (by simp; omega)]; rfl
      · rfl
    have hset : ∀ d, d ≠ H.length → (H1.set H.length ⟨[.int .i64 (i : Int), .sl s19], .rw, 2⟩)[d]? = H1[d]? := fun d hd => List.getElem?_set_ne (Ne.symm hd)
    have hH0 := hO.fr.le.len
    -- the frame with the new row
    have F1 : Fr H0 H1 ((s19, ts[i].L) :: lrows v) := (hO.fr.ext hle1).new l1 o1
    have F2 : Fr H0 (H1.set H.length ⟨[.int .i64 (i : Int), .sl s19], .rw, 2⟩) ((s19, ts[i].L) :: lrows v) := ⟨F1.le.set hH0, F1.rows.frame fun p hp hne => hset _ fun e => by
      have := (F1.rows.own p hp).blk' hne
      rw [e, hres] at this; simp [resB] at this⟩
    have O1 := hO.out.le hle
    have O2 : CO 2 H0.length (H1.set H.length ⟨[.int .i64 (i : Int), .sl s19], .rw, 2⟩) sl (lcells v) := O1.keep fun hc => hset _ (by have := hO.out.lt hc; omega)
    have hsn : sl.n = v.length := hO.out.lr.n
    obtain ⟨sl', H3, e3, O3, n3, l3, f3⟩ := O2.push (by_ := 32) (new := [.int .i64 (i : Int), .sl s19]) (by simp; omega) (by omega) (by omega) rfl (by rw [hsn, hvl]; unfold most; omega)
    have keep3 : ∀ d, d < H.length → (d ≠ sl.b ∨ lcells v = []) → H3[d]? = H[d]? := fun d hd h => by
      rw [f3 d (by simp; omega) h, hset d (by omega), hle.get d hd]
    have hbs : bs ≠ sl.b ∨ lcells v = [] := by
      rcases hO.out.blk with ⟨e, _⟩ | ⟨_, _, hb⟩
      · exact .inr e
      · refine .inl fun e => ?_
        rw [← e, hO.blk] at hb
        simp at hb
    have hb3 : H3[bs]? = some ⟨ics D ++ [.sl so, .sl sl, .int .i64 (ts.length : Int)], .rw, 103⟩ := by rw [keep3 bs hbl hbs]; exact hO.blk
    have hD : (ics D).length = 100 := by simp [hO.dl]
    have hp1 : putR H3 bs (0 + 101) [.sl sl'] = some (H3.set bs ⟨ics D ++ [.sl so, .sl sl', .int .i64 (ts.length : Int)], .rw, 103⟩) := by
      rw [put_cell hb3 (by simp [hO.dl])]
      congr 4
      rw [List.set_append_right _ _ (by omega), hD]; rfl
    -- rows stay
    have hrow3 : ∀ p ∈ (s19, ts[i].L) :: lrows v, p.2 ≠ [] → H3[p.1.b]? = (H1.set H.length ⟨[.int .i64 (i : Int), .sl s19], .rw, 2⟩)[p.1.b]? := fun p hp hne => f3 _ (F2.rows.lt p hp hne) (by
      by_cases e : lcells v = []
      · exact .inr e
      · exact .inl (O2.ne e (by omega) (F2.rows.own p hp) hne))
    have F3 : Fr H0 H3 ((s19, ts[i].L) :: lrows v) := ⟨⟨by simp at l3; omega, fun d hd => by
      rw [keep3 d (by omega) (by
        by_cases e : lcells v = []
        · exact .inr e
        · rcases hO.out.blk with ⟨e', _⟩ | ⟨_, hlo, _⟩
          · exact absurd e' e
          · exact .inl (by omega))]
      exact hO.fr.le.get d hd⟩, F2.rows.frame hrow3⟩
    have hOne : ∀ {s : Sl} {l : List Int}, Own H0.length H3 s l → l ≠ [] → s.b ≠ bs := fun ho hl e => by
      have := ho.blk' hl
      rw [e, hb3] at this
      simp at this
    have hO4 : OS H0 (H3.set bs ⟨ics D ++ [.sl so, .sl sl', .int .i64 (ts.length : Int)], .rw, 103⟩) bs D op so sl' ts.length (v ++ [⟨(i : Int), s19, ts[i].L⟩]) := by
      have F3' : Fr H0 H3 (lrows (v ++ [⟨(i : Int), s19, ts[i].L⟩])) := F3.perm (by unfold lrows; rw [List.map_append]; exact List.perm_append_comm)
      refine ⟨⟨F3'.le.set hO.lo, F3'.rows.frame fun p hp hne => List.getElem?_set_ne (Ne.symm (hOne (F3'.rows.own p hp) hne))⟩, ?_, set_get hb3, hO.lo, hO.dl, hO.op⟩
      rw [lcells_app]
      refine O3.keep fun hc => List.getElem?_set_ne fun e => ?_
      rcases O3.blk with ⟨e', _⟩ | ⟨_, _, hb⟩
      · exact absurd e' hc
      · rw [← e, hb3] at hb
        simp at hb
    obtain ⟨sl2, v2, H', e5, O5, v5⟩ := c_istartState_0 hT hl htl k (i + 1) _ sl' (v ++ [⟨(i : Int), s19, ts[i].L⟩]) (by omega) hO4 (by
      rw [List.map_append, hv, take_snoc_any hlt, List.zipIdx_append, List.map_append]
      simp; omega)
    refine ⟨sl2, v2, H', ?_, O5, v5⟩
    have hrd : rdB ((reserve H 1).set (H.length + 0) deadB) bs = some (ics D ++ [.sl so, .sl sl, .int .i64 (ts.length : Int)]) := by
      unfold rdB
      rw [List.getElem?_set_ne (by omega), reserve1, hle1.get bs hbl, hO.blk]; rfl
    rw [R_eq, e_istartState_0, lt_true hlt, w1 hlt (by omega), cond_true, hk, decide_eq_true hbl, cond_true, hrd]
    simp only [Option.bind_some, a2]
    rw [reserve1, e1]
    simp only [Option.bind_some, one_sl]
    rw [reserve1] at htake
    rw [decide_eq_true htake, cond_true, Nat.add_zero, newAt_ok hres (by omega)]
    simp only [Option.bind_some]
    rw [rng_new (cs := [.int .i64 (i : Int), .sl s19]) (z := 2) (m := 1 * 2) (by simp [hl1]) rfl (by omega)]
    simp only [Option.bind_some]
    rw [e3]
    simp only [Option.bind_some]
    rw [hp1]
    exact e5

/-- impl.startState, of a network -/
theorem c_istartState {H : AH} {s u : Sl} {n : Nw} (h : NS H s u n) (hn : netB n = true) :
    ∃ bs D sl v H', R (.fn F.istartState) [npv n.r s u] H = some ⟨1, [.sc (.hp bs 0)], H'⟩ ∧ OS H H' bs D n.op u sl n.ts.length v ∧ v.map (fun t => (t.n, t.l)) = (n.ts.zipIdx).map (fun x => ((x.2 : Int), x.1.L)) ∧ dimTs (List.replicate 100 0) n.ts = some D := by
  simp only [netB, Bool.and_eq_true, decide_eq_true_eq] at hn
  obtain ⟨⟨⟨h1, h2⟩, h3⟩, h4⟩ := hn
  have hm : ∀ t ∈ n.ts, tensorB n.r t = true := cons_mem h3
  have hD0 : Dm (List.replicate 100 0) [] := ⟨by simp, fun y _ _ => by
    simp only [List.getD_eq_getElem?_getD, List.getElem?_replicate]
    split <;> rfl⟩
  rcases dimTs_spec n.ts [] _ hD0 (fun _ h => by simp at h) hm with ⟨k1, D, k2, k3⟩ | ⟨k1, k2⟩
  · rcases c_idimsOf h.ts h2 fun t ht => (tensor_facts (hm t ht)).1 with ⟨d, e1, e2, e3⟩ | ⟨e1, _⟩
    · rw [k2] at e1; cases e1
      have hdl : (ics D).length = 100 := by simp [e2]
      have hz : (zc P Y.t100_int).length = 100 := by rw [zc_dims]; simp
      have e6 : setAll (zc P Y.t100_int) 0 (ics D) = ics D := setAll_full (by rw [hdl, hz])
      have e7 : (List.take 100 (List.drop 0 (ics D))) = ics D := by rw [List.drop_zero, List.take_of_length_le (by omega)]
      have hO0 : OS H (H ++ [⟨ics D ++ [.sl u, .sl ⟨0, 0, 0, 0, true⟩, .int .i64 (n.ts.length : Int)], .rw, 103⟩]) H.length D n.op u ⟨0, 0, 0, 0, true⟩ n.ts.length [] :=
        ⟨Fr.of (Go.Abs.Le.app _ _), CO.nil _ _ _ _, app_get, Nat.le_refl _, e2, h.op⟩
      obtain ⟨sl, v, H', e8, O8, v8⟩ := c_istartState_0 h.ts h2 (fun t ht => (tensor_dims (hm t ht)).2.1) n.ts.length 0 _ _ [] (by omega) hO0 (by simp)
      rw [n0z] at e8
      refine ⟨H.length, D, sl, v, H', ?_, O8, v8, k2⟩
      rw [R_eq, e_istartState, e3]
      have b1 : Nat.beq (ics D).length 100 = true := by rw [hdl]; rfl
      simp only [Option.bind_some, lenP, nthP, PV.agg?, PV.sc?, boolAt, List.length_cons, List.length_nil, if_true, List.getElem?_cons_zero, List.getElem?_cons_succ, hdl, decide_true, cond_true, hz, Nat.zero_add, Nat.le_refl, e6, e7]
      rw [show (Nat.beq 100 100) = true from rfl, cond_true, h.ts.1, fill_os hdl]
      simp only [Option.bind_some]
      have hnb : newB H 103 (ics D ++ [.sl u, .sl ⟨0, 0, 0, 0, true⟩, .int .i64 (n.ts.length : Int)]) = some (H.length, H ++ [⟨ics D ++ [.sl u, .sl ⟨0, 0, 0, 0, true⟩, .int .i64 (n.ts.length : Int)], .rw, 103⟩]) := rfl
      rw [hnb]
      simp only [Option.bind_some]
      rw [e8]
      rfl
    · rw [k2] at e1; cases e1
  · rw [h3] at k1; cases k1

/-- Is an order one of the network's? -/
def ordB (n : Nw) (ps : List Sp) : Bool := netB n && decide (ps.length = n.ts.length - 1) && orderN ((List.range n.ts.length).map fun i : Nat => (i : Int)) n.ts.length ps
theorem netB_small {n : Nw} (h : netB n = true) : n.ts.length ≤ 12 ∧ n.op.length ≤ 12 ∧ ∀ t ∈ n.ts, t.L.length ≤ 12 := by
  simp only [netB, Bool.and_eq_true, decide_eq_true_eq] at h
  exact ⟨h.1.1.2, (sizeB_open h.2).1, fun t ht => (tensor_dims (cons_mem h.1.2 t ht)).2.1⟩
/-- impl.OrderOk -/
theorem c_iOrderOk {H : AH} {s u sp : Sl} {n : Nw} {ps : List Sp} (h : NS H s u n) (ho : n.op.length ≤ 1048576) (hp : S2 H sp ps) (hts : n.ts.length ≤ 4611686018427387904) :
    ∃ H', R (.fn F.iOrderOk) [npv n.r s u, ssc sp] H = some ⟨1, [bsc (ordB n ps)], H'⟩ ∧ Go.Abs.Le H H' := by
  obtain ⟨H1, e1, l1⟩ := c_iNetworkOk h ho
  unfold ordB
  cases hn : netB n with
  | false =>
    rw [hn] at e1
    exact ⟨H1, by rw [R_eq, e_iOrderOk, e1]; rfl, l1⟩
  | true =>
  rw [hn] at e1
  obtain ⟨b1, b2, b3⟩ := netB_small hn
  have hw : IntKind.wrap .i64 ((n.ts.length : Int) - 1) = (n.ts.length : Int) - 1 := by rw [wrap_id] <;> omega
  have hif : (if 0 > (n.ts.length : Int) - 1 then 0 else (n.ts.length : Int) - 1) = ((n.ts.length - 1 : Nat) : Int) := by split <;> omega
  by_cases hl : ps.length = n.ts.length - 1
  · obtain ⟨bs, D, sl, v, H2, e2, O2, v2, _⟩ := c_istartState (h.le l1) hn
    have hvl : v.length = n.ts.length := by have := congrArg List.length v2; simpa using this
    have hnums : v.map (·.n) = (List.range n.ts.length).map fun i : Nat => (i : Int) := by
      have := congrArg (List.map Prod.fst) v2
      rw [List.map_map, List.map_map] at this
      have e : (Prod.fst ∘ fun t : LE => (t.n, t.l)) = fun t => t.n := rfl
      rw [e] at this
      rw [this]
      refine List.ext_getElem (by simp) fun i h1 h2 => ?_
      simp
    have htot : totV v ≤ 144 := by
      have hlens : v.map (fun t => t.l.length) = n.ts.map (fun t => t.L.length) := by
        have := congrArg (List.map fun x : Int × List Int => x.2.length) v2
        rw [List.map_map, List.map_map] at this
        have e : ((fun x : Int × List Int => x.2.length) ∘ fun t : LE => (t.n, t.l)) = fun t => t.l.length := rfl
        rw [e] at this
        rw [this]
        refine List.ext_getElem (by simp) fun i h1 h2 => ?_
        simp
      unfold totV
      rw [hlens]
      have key : ∀ l : List Tn, (∀ t ∈ l, t.L.length ≤ 12) → (l.map fun t => t.L.length).sum ≤ l.length * 12 := by
        intro l
        induction l with
        | nil => intro _; simp
        | cons t l ih =>
          intro h
          have h1 := h t List.mem_cons_self
          have h2 := ih fun u hu => h u (List.mem_cons_of_mem _ hu)
          simp only [List.map_cons, List.sum_cons, List.length_cons]
          omega
      have := key n.ts b3
      omega
    have hnd : (v.map (·.n)).Nodup := by
      rw [hnums, List.Nodup, List.pairwise_map]
      exact List.pairwise_lt_range.imp fun {a b} hab => by omega
    have hlt : ∀ t ∈ v, t.n < ((n.ts.length : Nat) : Int) := fun t ht => by
      have : t.n ∈ v.map (·.n) := List.mem_map.2 ⟨t, ht, rfl⟩
      rw [hnums] at this
      obtain ⟨i, hi, e⟩ := List.mem_map.1 this
      have := List.mem_range.1 hi
      omega
    obtain ⟨H3, e3, l3⟩ := c_iOrderOk_0 (hp.le l1) (by omega) (by omega) ps.length 0 H2 sl n.ts.length v (by omega) O2 (by omega) (by omega) (by omega) hnd hlt
    rw [List.drop_zero, hnums] at e3
    refine ⟨H3, ?_, l1.trans l3⟩
    rw [decide_eq_true hl, R_eq, e_iOrderOk, e1]
    simp only [Option.bind_some, one_bool, Bool.not_true, cond_false]
    rw [h.ts.1, hw, hif, hp.1, hl, ne_i, cond_false, e2]
    have e3 : R (.loop F.iOrderOk 0) [.sc (.hp bs 0), ssc sp, isc (ps.length : Int), isc 0] H2 = _ := e3
    have hone : ∀ {α : Type} (b o : Nat) (k : Nat × Nat → Option α), ((oneP [.sc (.hp b o)]).bind fun p6 => p6.sc?.bind fun c7 => (ptrAt [c7] 0).bind k) = k (b, o) := fun b o k => rfl
    simp only [Option.bind_some, hone]
    rw [← hl, e3]
    cases orderN ((List.range n.ts.length).map fun i : Nat => (i : Int)) n.ts.length ps <;> rfl
  · refine ⟨H1, ?_, l1⟩
    have hne : (((ps.length : Nat) : Int) != ((n.ts.length - 1 : Nat) : Int)) = true := bne_iff_ne.2 (by omega)
    rw [R_eq, e_iOrderOk, e1]
    simp only [Option.bind_some, one_bool, Bool.not_true, cond_false]
    rw [h.ts.1, hw, hif, hp.1, hne, decide_eq_false hl]
    rfl
end Go.Abs
/- Contracts: orders (spec): the same answer. -/
namespace Go.Abs
set_option linter.all false
set_option maxRecDepth 10000

def orderU : List Bool → Int → List Sp → Bool
  | _, _, [] => true
  | us, top, p :: ps => if p.a < 0 ∨ p.a ≥ p.b ∨ p.b ≥ top ∨ us.getD p.a.toNat false = true ∨ us.getD p.b.toNat false = true then false else orderU ((us.set p.a.toNat true).set p.b.toNat true) (top + 1) ps
theorem getD_setB {us : List Bool} {i j : Nat} (hi : i < us.length) (v : Bool) : (us.set i v).getD j false = if i = j then v else us.getD j false := by
  simp only [List.getD_eq_getElem?_getD, List.getElem?_set]
  split
  · first | rfl | (rw [if_pos (by omega)]; rfl)
  · rfl
theorem orderN_U : ∀ (ps : List Sp) (ns : List Int) (us : List Bool) (top : Int), 0 ≤ top → top + ps.length ≤ us.length → (∀ x : Int, x ∈ ns ↔ (0 ≤ x ∧ x < top ∧ us.getD x.toNat false = false)) → (∀ x : Int, top ≤ x → us.getD x.toNat false = false) → orderN ns top ps = orderU us top ps
  | [], _, _, _, _, _, _, _ => rfl
  | p :: ps, ns, us, top, h0, hl, hx, hr => by
    simp only [List.length_cons] at hl
    simp only [orderN, orderU]
    by_cases hc : p.a ∈ ns ∧ p.b ∈ ns ∧ p.a < p.b
    · obtain ⟨ha, hb, hab⟩ := hc
      have ga := (hx p.a).1 ha
      have gb := (hx p.b).1 hb
      rw [if_pos ⟨ha, hb, hab⟩, if_neg]
      · have hal : p.a.toNat < us.length := by omega
        have hbl : p.b.toNat < (us.set p.a.toNat true).length := by simp; omega
        have hget : ∀ x : Int, ((us.set p.a.toNat true).set p.b.toNat true).getD x.toNat false = if p.b.toNat = x.toNat then true else if p.a.toNat = x.toNat then true else us.getD x.toNat false := fun x => by
          rw [getD_setB hbl, getD_setB hal]
        refine orderN_U ps _ _ (top + 1) (by omega) (by simp; omega) (fun x => ?_) (fun x hx1 => ?_)
        · rw [hget, List.mem_append, List.mem_filter, hx x]
          simp only [Bool.and_eq_true, bne_iff_ne, List.mem_singleton]
          constructor
          · rintro (⟨⟨g1, g2, g3⟩, g4, g5⟩ | rfl)
            · refine ⟨g1, by omega, ?_⟩
              rw [if_neg (by omega), if_neg (by omega)]; exact g3
            · refine ⟨h0, by omega, ?_⟩
              rw [if_neg (by omega), if_neg (by omega)]; exact hr x (Int.le_refl _)
          · rintro ⟨g1, g2, g3⟩
            by_cases e1 : p.b.toNat = x.toNat
            · rw [if_pos e1] at g3; cases g3
            rw [if_neg e1] at g3
            by_cases e2 : p.a.toNat = x.toNat
            · rw [if_pos e2] at g3; cases g3
            rw [if_neg e2] at g3
            by_cases e3 : x = top
            · exact .inr e3
            · exact .inl ⟨⟨g1, by omega, g3⟩, by omega, by omega⟩
        · rw [hget, if_neg (by omega), if_neg (by omega)]
          exact hr x (by omega)
      · rintro (h | h | h | h | h)
        · omega
        · omega
        · omega
        · rw [ga.2.2] at h; cases h
        · rw [gb.2.2] at h; cases h
    · rw [if_neg hc, if_pos]
      by_cases h1 : p.a < 0
      · exact .inl h1
      by_cases h2 : p.a ≥ p.b
      · exact .inr (.inl h2)
      by_cases h3 : p.b ≥ top
      · exact .inr (.inr (.inl h3))
      cases h4 : us.getD p.a.toNat false with
      | true => exact .inr (.inr (.inr (.inl rfl)))
      | false =>
        cases h5 : us.getD p.b.toNat false with
        | true => exact .inr (.inr (.inr (.inr rfl)))
        | false => exact absurd ⟨(hx p.a).2 ⟨by omega, by omega, h4⟩, (hx p.b).2 ⟨by omega, by omega, h5⟩, by omega⟩ hc

theorem bool_ld_i {H : AH} {b n : Nat} {x : Bool} {cs : List Bool} (hb : H[b]? = some ⟨bcs cs, .rw, 1⟩) {y : Int} (h0 : 0 ≤ y) (hi : y < n) (hc : n ≤ cs.length) {α : Type} (k : Bool → Option α) :
    ((ixA ⟨b, 0, n, n, x⟩ y 1).bind fun o => (rdB H b).bind fun q => (boolAt q o).bind k) = k (cs.getD y.toNat false) := by
  have e : y = ((y.toNat : Nat) : Int) := by omega
  have := bool_ld (n := n) (x := x) hb (i := y.toNat) (by omega) (by omega) k
  rw [← e] at this
  rw [this]
  congr 1
  simp [List.getD_eq_getElem?_getD, show y.toNat < cs.length by omega]
theorem bool_put_i {H : AH} {b n : Nat} {x : Bool} {cs : List Bool} (hb : H[b]? = some ⟨bcs cs, .rw, 1⟩) {y : Int} (h0 : 0 ≤ y) (hi : y < n) (hc : n ≤ cs.length) (v : Bool) {α : Type} (k : AH → Option α) :
    ((ixA ⟨b, 0, n, n, x⟩ y 1).bind fun o => (putR H b o [.bool v]).bind k) = k (H.set b ⟨bcs (cs.set y.toNat v), .rw, 1⟩) := by
  have e : y = ((y.toNat : Nat) : Int) := by omega
  have := bool_put (n := n) (x := x) hb (i := y.toNat) (by omega) (by omega) v k
  rw [← e] at this
  exact this
/-- spec.OrderOk: the steps -/
theorem c_sOrderOk_0 {H0 : AH} {bu N m : Nat} {sp : Sl} {ps : List Sp} (hu : H0.length ≤ bu) (hp : S2 H0 sp ps) (hN : N = m + ps.length) (hNs : N ≤ 4096) :
    ∀ (k i : Nat) (H : AH) (us : List Bool), i + k = ps.length → Go.Abs.Le H0 H → H[bu]? = some ⟨bcs us, .rw, 1⟩ → us.length = N →
      ∃ H', R (.loop F.sOrderOk 0) [isc (m : Int), ssc ⟨bu, 0, N, N, true⟩, ssc sp, isc (ps.length : Int), isc (i : Int)] H = cond (orderU us ((m + i : Nat) : Int) (ps.drop i)) (some ⟨2, [], H'⟩) (some ⟨1, [bsc false], H'⟩) ∧ Go.Abs.Le H0 H'
  | 0, i, H, us, hi, hle, hb, hl => by
    obtain rfl : i = ps.length := by omega
    refine ⟨H, ?_, hle⟩
    rw [R_eq, e_sOrderOk_0, lt_self]
    simp [orderU]
  | k + 1, i, H, us, hi, hle, hb, hl => by
    have hlt : i < ps.length := by omega
    have hw : IntKind.wrap .i64 ((m : Int) + (i : Int)) = ((m + i : Nat) : Int) := by rw [wrap_id] <;> omega
    rw [List.drop_eq_getElem_cons hlt]
    simp only [orderU]
    rw [R_eq, e_sOrderOk_0, lt_true hlt, w1 hlt (by omega), cond_true, (hp.le hle).ld hlt, hw]
    by_cases h1 : ps[i].a < 0
    · exact ⟨H, by rw [if_pos (.inl h1), decide_eq_true h1]; rfl, hle⟩
    by_cases h2 : ps[i].a ≥ ps[i].b
    · exact ⟨H, by rw [if_pos (.inr (.inl h2)), decide_eq_false h1, decide_eq_true h2]; rfl, hle⟩
    by_cases h3 : ps[i].b ≥ ((m + i : Nat) : Int)
    · exact ⟨H, by rw [if_pos (.inr (.inr (.inl h3))), decide_eq_false h1, decide_eq_false h2, decide_eq_true h3]; rfl, hle⟩
    rw [decide_eq_false h1, decide_eq_false h2, decide_eq_false h3]
    simp only [cond_false]
    rw [bool_ld_i hb (by omega) (by omega) (by omega)]
    cases h4 : us.getD ps[i].a.toNat false with
    | true => exact ⟨H, by rw [if_pos (.inr (.inr (.inr (.inl rfl))))]; rfl, hle⟩
    | false =>
    simp only [cond_false]
    rw [bool_ld_i hb (by omega) (by omega) (by omega)]
    cases h5 : us.getD ps[i].b.toNat false with
    | true => exact ⟨H, by rw [if_pos (.inr (.inr (.inr (.inr rfl))))]; rfl, hle⟩
    | false =>
    simp only [cond_false]
    rw [bool_put_i hb (by omega) (by omega) (by omega), bool_put_i (set_get hb) (by omega) (by omega) (by simp; omega), set_set]
    obtain ⟨H', e, l⟩ := c_sOrderOk_0 hu hp hN hNs k (i + 1) (H.set bu ⟨bcs ((us.set ps[i].a.toNat true).set ps[i].b.toNat true), .rw, 1⟩) ((us.set ps[i].a.toNat true).set ps[i].b.toNat true) (by omega) (hle.set hu) (set_get hb) (by simp [hl])
    refine ⟨H', ?_, l⟩
    rw [e, if_neg]
    · have : ((m + (i + 1) : Nat) : Int) = ((m + i : Nat) : Int) + 1 := by omega
      rw [this]
    · rintro (h | h | h | h | h)
      · exact h1 h
      · exact h2 h
      · exact h3 h
      · cases h
      · cases h
/-- spec.OrderOk -/
theorem c_sOrderOk {H : AH} {s u sp : Sl} {n : Nw} {ps : List Sp} (h : NS H s u n) (ho : n.op.length ≤ 1048576) (hp : S2 H sp ps) (hts : n.ts.length ≤ 4611686018427387904) :
    ∃ H', R (.fn F.sOrderOk) [npv n.r s u, ssc sp] H = some ⟨1, [bsc (ordB n ps)], H'⟩ ∧ Go.Abs.Le H H' := by
  obtain ⟨H1, e1, l1⟩ := c_sNetworkOk h ho
  unfold ordB
  cases hn : netB n with
  | false =>
    rw [hn] at e1
    exact ⟨H1, by rw [R_eq, e_sOrderOk, e1]; rfl, l1⟩
  | true =>
  rw [hn] at e1
  obtain ⟨b1, b2, b3⟩ := netB_small hn
  have hw : IntKind.wrap .i64 ((n.ts.length : Int) - 1) = (n.ts.length : Int) - 1 := by rw [wrap_id] <;> omega
  have hif : (if (n.ts.length : Int) - 1 > 0 then (n.ts.length : Int) - 1 else 0) = ((n.ts.length - 1 : Nat) : Int) := by split <;> omega
  by_cases hl : ps.length = n.ts.length - 1
  · have hw2 : IntKind.wrap .i64 ((n.ts.length : Int) + (ps.length : Int)) = ((n.ts.length + ps.length : Nat) : Int) := by rw [wrap_id] <;> omega
    have hle2 := l1.trans (Go.Abs.Le.app H1 [⟨bcs (List.replicate (n.ts.length + ps.length) false), .rw, 1⟩])
    obtain ⟨H3, e3, l3⟩ := c_sOrderOk_0 (H0 := H) (bu := H1.length) (N := n.ts.length + ps.length) (m := n.ts.length) l1.len hp rfl (by omega) ps.length 0 (H1 ++ [⟨bcs (List.replicate (n.ts.length + ps.length) false), .rw, 1⟩]) (List.replicate (n.ts.length + ps.length) false) (by omega) hle2 (by simp) (by simp)
    rw [List.drop_zero] at e3
    have hgd : ∀ x : Int, (List.replicate (n.ts.length + ps.length) false).getD x.toNat false = false := fun x => by
      simp only [List.getD_eq_getElem?_getD, List.getElem?_replicate]
      split <;> rfl
    have hou := orderN_U ps ((List.range n.ts.length).map fun i : Nat => (i : Int)) (List.replicate (n.ts.length + ps.length) false) (n.ts.length : Int) (by omega) (by simp) (fun x => by
      rw [hgd]
      simp only [List.mem_map, List.mem_range, and_true]
      constructor
      · rintro ⟨i, hi, rfl⟩; omega
      · rintro ⟨g1, g2⟩; exact ⟨x.toNat, by omega, by omega⟩) (fun x _ => hgd x)
    refine ⟨H3, ?_, l3⟩
    rw [decide_eq_true hl, hou, R_eq, e_sOrderOk, e1]
    simp only [Option.bind_some, one_bool, Bool.not_true, cond_false]
    have hpn : ((sp.n : Nat) : Int) = (ps.length : Int) := by rw [hp.1]
    rw [h.ts.1, hw, hif, hpn, hw2]
    have hnn : (((ps.length : Nat) : Int) != ((n.ts.length - 1 : Nat) : Int)) = false := by rw [hl]; exact ne_i _
    rw [hnn, cond_false, mk_bools (by omega)]
    simp only [Option.bind_some]
    have e3 : R (.loop F.sOrderOk 0) [isc (n.ts.length : Int), ssc ⟨H1.length, 0, n.ts.length + ps.length, n.ts.length + ps.length, true⟩, ssc sp, isc (ps.length : Int), isc 0] (H1 ++ [⟨bcs (List.replicate (n.ts.length + ps.length) false), .rw, 1⟩]) = _ := e3
    rw [e3]
    have e0 : ((n.ts.length + 0 : Nat) : Int) = (n.ts.length : Int) := by simp
    rw [e0]
    cases orderU (List.replicate (n.ts.length + ps.length) false) n.ts.length ps <;> rfl
  · refine ⟨H1, ?_, l1⟩
    have hne : (((ps.length : Nat) : Int) != ((n.ts.length - 1 : Nat) : Int)) = true := bne_iff_ne.2 (by omega)
    rw [R_eq, e_sOrderOk, e1]
    simp only [Option.bind_some, one_bool, Bool.not_true, cond_false]
    rw [h.ts.1, hw, hif, hp.1, hne, decide_eq_false hl]
    rfl
end Go.Abs
/- Pure: slices of tensors: how many places have a digit zero; steps of offsets. -/
namespace Go.Abs
set_option linter.all false

def cnt (p : Nat → Bool) : Nat → Nat
  | 0 => 0
  | n + 1 => cnt p n + if p n then 1 else 0
/-- The step of each axis, the last axis first. -/
def strR : Int → List Int → List Int
  | _, [] => []
  | s, d :: r => s :: strR (s * d) r
def dotL : List Int → List Int → Int
  | a :: l, b :: m => a * b + dotL l m
  | _, _ => 0
theorem strR_len : ∀ (s : Int) (r : List Int), (strR s r).length = r.length
  | _, [] => rfl
  | s, d :: r => by simp [strR, strR_len]
theorem dot_strR : ∀ {r x : List Int} (s : Int), x.length = r.length → dotL (strR s r) x = s * offR r x
  | [], [], s, _ => by simp [dotL, strR, offR]
  | d :: r, x :: xs, s, h => by
    simp only [strR, dotL, offR]
    rw [dot_strR (s * d) (by simpa using h), Int.mul_add, Int.mul_comm (offR r xs) d, Int.mul_assoc]
    omega
  | [], _ :: _, _, h => by simp at h
  | _ :: _, [], _, h => by simp at h
theorem dot_app : ∀ {a b c d : List Int}, a.length = b.length → dotL (a ++ c) (b ++ d) = dotL a b + dotL c d
  | [], [], c, d, _ => by simp [dotL]
  | x :: a, y :: b, c, d, h => by
    simp only [List.cons_append, dotL]
    rw [dot_app (by simpa using h)]; omega
  | [], _ :: _, _, _, h => by simp at h
  | _ :: _, [], _, _, h => by simp at h
theorem dot_rev : ∀ {a b : List Int}, a.length = b.length → dotL a.reverse b.reverse = dotL a b
  | [], [], _ => rfl
  | x :: a, y :: b, h => by
    have hl : a.length = b.length := by simpa using h
    rw [List.reverse_cons, List.reverse_cons, dot_app (by simpa using hl), dot_rev hl]
    simp only [dotL]; omega
  | [], _ :: _, h => by simp at h
  | _ :: _, [], h => by simp at h
def strF (D : List Int) : List Int := (strR 1 D.reverse).reverse
theorem strF_len (D : List Int) : (strF D).length = D.length := by simp [strF, strR_len]
theorem dot_strF {D I : List Int} (h : I.length = D.length) : dotL (strF D) I = offF D I := by
  have : dotL (strF D) I = dotL (strR 1 D.reverse) I.reverse := by
    rw [← dot_rev (a := strR 1 D.reverse) (b := I.reverse) (by simp [strR_len, h])]
    simp [strF]
  rw [this, dot_strR 1 (by simp [h])]
  simp [offF]
theorem strR_ge : ∀ {r : List Int} {s : Int}, 1 ≤ s → (∀ d ∈ r, 1 ≤ d) → ∀ x ∈ strR s r, 1 ≤ x ∧ x ≤ s * prd r
  | [], s, _, _, x, hx => by simp [strR] at hx
  | d :: r, s, hs, h, x, hx => by
    have hd := h d List.mem_cons_self
    have hp := prd_pos (a := r) fun y hy => h y (List.mem_cons_of_mem _ hy)
    have hsd : s * 1 ≤ s * d := Int.mul_le_mul_of_nonneg_left hd (by omega)
    have e : s * prd (d :: r) = s * d * prd r := by simp only [prd]; rw [Int.mul_assoc]
    have h2 : s * d * 1 ≤ s * d * prd r := Int.mul_le_mul_of_nonneg_left hp (by omega)
    simp only [strR] at hx
    rcases List.mem_cons.1 hx with rfl | hx
    · exact ⟨hs, by omega⟩
    · have := strR_ge (s := s * d) (by omega) (fun y hy => h y (List.mem_cons_of_mem _ hy)) x hx
      rw [e]; exact this
theorem strF_ge {D : List Int} (h : ∀ d ∈ D, 1 ≤ d) : ∀ x ∈ strF D, 1 ≤ x ∧ x ≤ prd D := fun x hx => by
  have := strR_ge (r := D.reverse) (s := 1) (by omega) (fun d hd => h d (by simpa using hd)) x (by simpa [strF] using hx)
  rw [prd_rev, Int.one_mul] at this
  exact this
end Go.Abs
/- Pure: orders followed by numbers, what each step costs. -/
namespace Go.Abs
set_option linter.all false

def vp (v : List LE) : List (Int × List Int) := v.map fun t => (t.n, t.l)
def labW (W : List (Int × List Int)) (a : Int) : List Int := ((W.find? fun x => x.1 == a).map (·.2)).getD []
def dropW (a b : Int) (W : List (Int × List Int)) : List (Int × List Int) := W.filter fun x => x.1 != a && x.1 != b
def keptW (op : List Int) (W : List (Int × List Int)) (a b : Int) (x : Int) : Bool := (op.any fun y => x == y) || (dropW a b W).any fun t => t.2.any fun y => x == y
def resW (op : List Int) (W : List (Int × List Int)) (a b : Int) : List Int := (joinL (labW W a) (labW W b)).filter (keptW op W a b)
def stepW (op : List Int) (W : List (Int × List Int)) (nx : Int) (p : Sp) : List (Int × List Int) := dropW p.a p.b W ++ [(nx, resW op W p.a p.b)]
def costL (dm : Int → Int) (l : List Int) : Int := min (prd (l.map dm)) 1000000000
def costsW (op : List Int) (dm : Int → Int) : List (Int × List Int) → Int → List Sp → List Int
  | _, _, [] => []
  | W, nx, p :: ps => costL dm (joinL (labW W p.a) (labW W p.b)) :: costsW op dm (stepW op W nx p) (nx + 1) ps
def sizesW (op : List Int) (dm : Int → Int) : List (Int × List Int) → Int → List Sp → List Int
  | _, _, [] => []
  | W, nx, p :: ps => costL dm (resW op W p.a p.b) :: sizesW op dm (stepW op W nx p) (nx + 1) ps
theorem colF_filter (p : Int → Bool) : ∀ (l : List Int) (i : Nat), colF (fun _ x => if p x then some x else none) l i = l.filter p
  | [], _ => rfl
  | x :: l, i => by
    simp only [colF, List.filter_cons]
    cases p x <;> simp [colF_filter p l (i + 1)]
theorem vp_lab : ∀ (v : List LE) (a : Int) (k i : Nat), placeF v a k = (i : Int) → k ≤ i → ∀ h : i - k < v.length, labW (vp v) a = v[i - k].l
  | [], a, k, i, hp, hk, h => by simp at h
  | t :: v, a, k, i, hp, hk, h => by
    unfold placeF at hp
    unfold labW vp
    simp only [List.map_cons, List.find?_cons]
    by_cases e : (t.n == a) = true
    · rw [if_pos e] at hp
      rw [e]
      have : i = k := by omega
      subst this
      simp
    · rw [if_neg e] at hp
      have e : (t.n == a) = false := by simpa using e
      rw [e]
      have hk1 : k + 1 ≤ i := by
        rcases placeF_lo v a (k + 1) with h1 | h1
        · omega
        · omega
      have ih := vp_lab v a (k + 1) i hp hk1 (by simp at h; omega)
      unfold labW vp at ih
      rw [ih]
      congr 1
      rw [List.getElem_cons]
      rw [dif_neg (by omega)]
      congr 1
theorem vp_drop {i j : Nat} {a b : Int} : ∀ (v : List LE) (k : Nat), (∀ (m : Nat) t, v[m]? = some t → ((m + k = i ↔ t.n = a) ∧ (m + k = j ↔ t.n = b))) → vp (dropF i j v k) = dropW a b (vp v)
  | [], k, _ => rfl
  | t :: v, k, h => by
    have h0 := h 0 t rfl
    have ih := vp_drop (i := i) (j := j) (a := a) (b := b) v (k + 1) fun m u hm => by
      have := h (m + 1) u (by simpa using hm)
      rw [show m + 1 + k = m + (k + 1) by omega] at this
      exact this
    unfold dropF dropW vp
    simp only [List.map_cons, List.filter_cons]
    have e1 : (k != i) = (t.n != a) := by
      by_cases hh : t.n = a
      · have := h0.1.2 hh
        have hk : k = i := by omega
        have h1 : (k != i) = false := by simp [hk]
        have h2 : (t.n != a) = false := by simp [hh]
        rw [h1, h2]
      · have : ¬ k = i := fun e => hh (h0.1.1 (by omega))
        rw [bne_iff_ne.2 this, bne_iff_ne.2 hh]
    have e2 : (k != j) = (t.n != b) := by
      by_cases hh : t.n = b
      · have := h0.2.2 hh
        have hk : k = j := by omega
        have h1 : (k != j) = false := by simp [hk]
        have h2 : (t.n != b) = false := by simp [hh]
        rw [h1, h2]
      · have : ¬ k = j := fun e => hh (h0.2.1 (by omega))
        rw [bne_iff_ne.2 this, bne_iff_ne.2 hh]
    unfold vp dropW at ih
    rw [e1, e2]
    cases hc : (t.n != a && t.n != b) with
    | true => simp only [if_true, List.map_cons]; rw [ih]
    | false => simp only [Bool.false_eq_true, if_false]; exact ih
theorem vp_kept {i j : Nat} (x : Int) : ∀ (v : List LE) (k : Nat), keptF x i j v k = (vp (dropF i j v k)).any fun t => t.2.any fun y => x == y
  | [], k => rfl
  | t :: v, k => by
    unfold keptF dropF
    rw [vp_kept x v (k + 1)]
    cases hc : (k != i && k != j) with
    | true =>
      simp only [Bool.true_and, if_true, vp, List.map_cons, List.any_cons]
    | false => simp only [Bool.false_and, Bool.false_or, Bool.false_eq_true, if_false]
theorem vp_at {v : List LE} (hd : (v.map (·.n)).Nodup) {p q : Nat} {a b : Int} (hp : p < v.length) (hq : q < v.length) (ha : v[p].n = a) (hb : v[q].n = b) :
    ∀ (m : Nat) t, v[m]? = some t → ((m + 0 = p ↔ t.n = a) ∧ (m + 0 = q ↔ t.n = b)) := fun m t hm => ⟨nodup_at hd hp ha m t hm, nodup_at hd hq hb m t hm⟩
theorem vp_res {op : List Int} {v : List LE} (hd : (v.map (·.n)).Nodup) {p q : Nat} {a b : Int} (hp : p < v.length) (hq : q < v.length) (ha : v[p].n = a) (hb : v[q].n = b) (pa : placeF v a 0 = (p : Int)) (pb : placeF v b 0 = (q : Int)) :
    resL op v p q = resW op (vp v) a b := by
  unfold resL resW
  rw [getD_le hp, getD_le hq, colF_filter, vp_lab v a 0 p pa (by omega) (by simpa using hp), vp_lab v b 0 q pb (by omega) (by simpa using hq)]
  simp only [Nat.sub_zero]
  congr 1
  funext x
  unfold keptW
  rw [vp_kept, vp_drop v 0 (vp_at hd hp hq ha hb)]
theorem vp_step {op : List Int} {v : List LE} (hd : (v.map (·.n)).Nodup) {p q nx : Nat} {g : Sp} (s : Sl) (hp : p < v.length) (hq : q < v.length) (ha : v[p].n = g.a) (hb : v[q].n = g.b) (pa : placeF v g.a 0 = (p : Int)) (pb : placeF v g.b 0 = (q : Int)) :
    vp (stepV op v nx p q s) = stepW op (vp v) nx g := by
  unfold stepV stepW
  rw [← vp_drop v 0 (vp_at hd hp hq ha hb), ← vp_res hd hp hq ha hb pa pb]
  simp [vp]
end Go.Abs
/- Contracts: labels of a network, slices. -/
namespace Go.Abs
set_option linter.all false
set_option maxRecDepth 10000

theorem dimF_le {r : Rg} : ∀ {ts : List Tn}, (∀ t ∈ ts, tensorB r t = true) → ∀ y : Int, dimF ts y ≤ 8
  | [], _, y => by simp [dimF]
  | t :: ts, h, y => by
    unfold dimF
    split
    · have hf := (tensor_facts (h t List.mem_cons_self)).2.2
      simp only [List.getD_eq_getElem?_getD]
      cases hg : t.D[(findF t.L y 0).toNat]? with
      | none => simp
      | some d => exact (hf d (List.mem_of_getElem? hg)).2
    · exact dimF_le (fun u hu => h u (List.mem_cons_of_mem _ hu)) y
end Go.Abs
/- Contracts: slice counts, jobs and sessions. -/
namespace Go.Abs
set_option linter.all false
set_option maxRecDepth 10000

theorem net_mem {n : Nw} (hn : netB n = true) : ∀ t ∈ n.ts, tensorB n.r t = true := by
  simp only [netB, Bool.and_eq_true, decide_eq_true_eq] at hn
  exact cons_mem hn.1.2
end Go.Abs
/- Contracts: jobs and sessions. -/
namespace Go.Abs
set_option linter.all false
set_option maxRecDepth 10000

structure JB where
  sl : List Int
  ps : List Sp
  nx : Int
  t : Tn
structure JS (H : AH) (v sp a b c : Sl) (j : JB) : Prop where
  v : IS H v j.sl
  ps : S2 H sp j.ps
  t : TS H a b c j.t
theorem JS.le {H H' : AH} (h : Go.Abs.Le H H') {v sp a b c : Sl} {j : JB} (k : JS H v sp a b c j) : JS H' v sp a b c j := ⟨k.v.le h, k.ps.le h, k.t.le h⟩
structure SB where
  n : Nw
  ps : List Sp
  j : JB
structure SS (H : AH) (s u sp v jp a b c : Sl) (g : SB) : Prop where
  n : NS H s u g.n
  ps : S2 H sp g.ps
  j : JS H v jp a b c g.j
theorem SS.le {H H' : AH} (h : Go.Abs.Le H H') {s u sp v jp a b c : Sl} {g : SB} (k : SS H s u sp v jp a b c g) : SS H' s u sp v jp a b c g := ⟨k.n.le h, k.ps.le h, k.j.le h⟩
end Go.Abs
/- What the results of calls are taken apart to. Printed by clgen.py. -/
namespace Go.Abs
set_option linter.all false
end Go.Abs
/- Contracts: the law's own helpers for tensors, networks, steps, jobs and sessions. -/
namespace Go.Abs
set_option linter.all false
set_option maxRecDepth 10000

theorem maxLen_le : maxLen ≤ 9223372036854775807 := by decide
theorem z_ints {H : AH} {s : Sl} {l : List Int} (h : IS H s l) (hm : l.length ≤ maxLen) {left : Int} (h0 : 0 ≤ left) (h1 : left ≤ 1048576) :
    ∃ v, R (.fn F.wszIntS) [ssc s, isc left] H = some ⟨1, [isc v], H⟩ ∧ (v < 0 ∨ (0 ≤ v ∧ v ≤ 1048576 ∧ l.length ≤ 1048576)) := by
  have hx := maxLen_le
  have hn := h.n
  refine ⟨_, c_wszIntS s left h0 h1 (by omega) H, ?_⟩
  by_cases hg : left - (s.n : Int) < 0
  · rw [if_pos hg]; exact .inl (by omega)
  · rw [if_neg hg]; exact .inr ⟨by omega, by omega, by omega⟩
def TnMax (t : Tn) : Prop := t.L.length ≤ maxLen ∧ t.D.length ≤ maxLen ∧ t.X.length ≤ maxLen
theorem z_tensor {H : AH} {a b c : Sl} {t : Tn} (h : TS H a b c t) (hm : TnMax t) {left : Int} (h0 : 0 ≤ left) (h1 : left ≤ 1048576) :
    ∃ v, R (.fn F.wszTensor) [tpv a b c, isc left] H = some ⟨1, [isc v], H⟩ ∧ (v < 0 ∨ (0 ≤ v ∧ v ≤ 1048576 ∧ TnSmall t)) := by
  rw [R_eq, e_wszTensor]
  obtain ⟨v1, e1, g1 | ⟨g1, k1, m1⟩⟩ := z_ints h.L hm.1 h0 h1
  · exact ⟨-1, by rw [e1]; simp only [Option.bind_some, one_int, decide_eq_true g1, cond_true], .inl (by omega)⟩
  obtain ⟨v2, e2, g2 | ⟨g2, k2, m2⟩⟩ := z_ints h.D hm.2.1 g1 k1
  · exact ⟨-1, by rw [e1]; simp only [Option.bind_some, one_int, decide_eq_false (Int.not_lt.2 g1), cond_false]; rw [e2]; simp only [Option.bind_some, one_int, decide_eq_true g2, cond_true], .inl (by omega)⟩
  obtain ⟨v3, e3, g3 | ⟨g3, k3, m3⟩⟩ := z_ints h.X hm.2.2 g2 k2
  · exact ⟨-1, by rw [e1]; simp only [Option.bind_some, one_int, decide_eq_false (Int.not_lt.2 g1), cond_false]; rw [e2]; simp only [Option.bind_some, one_int, decide_eq_false (Int.not_lt.2 g2), cond_false]; rw [e3]; simp only [Option.bind_some, one_int, decide_eq_true g3, cond_true], .inl (by omega)⟩
  · exact ⟨v3, by rw [e1]; simp only [Option.bind_some, one_int, decide_eq_false (Int.not_lt.2 g1), cond_false]; rw [e2]; simp only [Option.bind_some, one_int, decide_eq_false (Int.not_lt.2 g2), cond_false]; rw [e3]; simp only [Option.bind_some, one_int, decide_eq_false (Int.not_lt.2 g3), cond_false], .inr ⟨g3, k3, m1, m2, m3⟩⟩
theorem z_tensors {H : AH} {s : Sl} {ts : List Tn} (h : T3 H s ts) (hn : ts.length ≤ maxLen) (hm : ∀ t ∈ ts, TnMax t) {left : Int} (h0 : 0 ≤ left) (h1 : left ≤ 1048576) :
    ∃ v, R (.fn F.wszTensorS) [ssc s, isc left] H = some ⟨1, [isc v], H⟩ ∧ (v < 0 ∨ (0 ≤ v ∧ v ≤ 1048576 ∧ ts.length ≤ 1048576 ∧ ∀ t ∈ ts, TnSmall t)) := by
  have hx := maxLen_le
  have loop : ∀ (k i : Nat), i + k = ts.length → ts.length ≤ 1048576 → ∀ left : Int, 0 ≤ left → left ≤ 1048576 →
      (R (.loop F.wszTensorS 0) [ssc s, isc left, isc (i : Int)] H = some ⟨1, [isc (-1)], H⟩) ∨ ∃ v : Int, R (.loop F.wszTensorS 0) [ssc s, isc left, isc (i : Int)] H = some ⟨2, [isc v], H⟩ ∧ 0 ≤ v ∧ v ≤ 1048576 ∧ ∀ t ∈ ts.drop i, TnSmall t := by
    intro k
    induction k with
    | zero =>
      intro i hi hl left h0 h1
      obtain rfl : i = ts.length := by omega
      exact .inr ⟨left, by rw [R_eq, e_wszTensorS_0, h.1, lt_self]; rfl, h0, h1, by simp⟩
    | succ k ih =>
      intro i hi hl left h0 h1
      have hlt : i < ts.length := by omega
      obtain ⟨a, b, c, ht, kt⟩ := h.ld hlt
      rw [R_eq, e_wszTensorS_0, h.1, lt_true hlt, w1 hlt (by omega), cond_true, kt]
      obtain ⟨v, e, g | ⟨g, g2, g3⟩⟩ := z_tensor ht (hm _ (List.getElem_mem hlt)) h0 h1
      · rw [e]
        simp only [Option.bind_some, one_int, decide_eq_true g, cond_true]
        exact .inl trivial
      · rw [e]
        simp only [Option.bind_some, one_int, decide_eq_false (Int.not_lt.2 g), cond_false]
        rcases ih (i + 1) (by omega) hl v g g2 with h2 | ⟨w, h2, h3, h4, h5⟩
        · exact .inl h2
        · refine .inr ⟨w, h2, h3, h4, fun t ht' => ?_⟩
          rw [List.drop_eq_getElem_cons hlt] at ht'
          rcases List.mem_cons.1 ht' with rfl | ht'
          · exact g3
          · exact h5 t ht'
  have hn1 := h.1
  have hw : IntKind.wrap .i64 (left - (s.n : Int)) = left - s.n := by rw [wrap_id] <;> omega
  rw [R_eq, e_wszTensorS, hw]
  by_cases hneg : left - (s.n : Int) < 0
  · exact ⟨-1, by rw [decide_eq_true hneg]; rfl, .inl (by omega)⟩
  · rw [decide_eq_false hneg, cond_false]
    have hll : ts.length ≤ 1048576 := by omega
    rcases loop ts.length 0 (by omega) hll (left - s.n) (by omega) (by omega) with h2 | ⟨v, h2, h3, h4, h5⟩
    · have h2 : R (.loop F.wszTensorS 0) [ssc s, isc (left - s.n), isc 0] H = some ⟨1, [isc (-1)], H⟩ := h2
      rw [h2]
      exact ⟨-1, rfl, .inl (by omega)⟩
    · have h2 : R (.loop F.wszTensorS 0) [ssc s, isc (left - s.n), isc 0] H = some ⟨2, [isc v], H⟩ := h2
      rw [h2]
      exact ⟨v, rfl, .inr ⟨h3, h4, hll, by simpa using h5⟩⟩
theorem putR_all {H : AH} {b o z : Nat} {cs : List Sc} {x : Sc} {vs : List Sc} (hb : H[b]? = some ⟨cs, .rw, z⟩) (h : o + (vs.length + 1) ≤ cs.length) : putR H b o (x :: vs) = some (H.set b ⟨setAll cs o (x :: vs), .rw, z⟩) := by
  unfold putR
  simp only [hb, Option.bind_some]
  rw [if_pos (by simpa using h)]
theorem mk_any {H : AH} {z y n : Nat} {vs : List Sc} (hn : n ≤ 1048576) (hy : (y : Int) ≤ 1024) (hz : z ≠ 0) (hy0 : y ≠ 0) : mkB H z y vs (n : Int) (n : Int) = some (⟨H.length, 0, n, n, true⟩, H ++ [⟨(List.replicate n vs).flatten, .rw, z⟩]) := by
  unfold mkB
  have hmost : (n : Int) * (y : Int) ≤ most := by
    have : (n : Int) * (y : Int) ≤ 1048576 * 1024 := Int.mul_le_mul (by omega) hy (by omega) (by omega)
    unfold most; omega
  rw [if_pos ⟨hz, hy0, by omega, by omega, hmost⟩]
  simp
theorem TS.set {H : AH} {a b c : Sl} {t : Tn} (h : TS H a b c t) {q : Nat} {k : Blk} (h1 : a.b ≠ q) (h2 : b.b ≠ q) (h3 : c.b ≠ q) : TS (H.set q k) a b c t := ⟨h.L.set fun _ => h1, h.D.set fun _ => h2, h.X.set fun _ => h3⟩
end Go.Abs
/- Plans: small contracts. -/
namespace Go.Abs
set_option linter.all false
set_option maxRecDepth 10000

/-- The sizes of a state's labels. -/
structure DmOk (D : List Int) (dm : Int → Int) : Prop where
  len : D.length = 100
  get : ∀ y : Int, 0 ≤ y → y ≤ 99 → D.getD y.toNat 0 = dm y
/-- Labels whose sizes are known. -/
def LabsOk (dm : Int → Int) (l : List Int) : Prop := ∀ x ∈ l, 0 ≤ x ∧ x ≤ 99 ∧ 1 ≤ dm x ∧ dm x ≤ 8
/-- impl.axisOf -/
theorem c_iaxisOf {H : AH} {a b c : Sl} {l : List Int} (h : IS H a l) (hm : l.length ≤ 1048576) (n : Int) : R (.fn F.iaxisOf) [tpv a b c, isc n] H = some ⟨1, [isc (findF l n 0)], H⟩ := by
  rw [R_eq, e_iaxisOf, h.n]
  have := loopG (F := fun i : Nat => R (.loop F.iaxisOf 0) [isc n, ssc a, isc (l.length : Int), isc (i : Int)] H) (l := l) (fun l i => if findF l n i = -1 then some ⟨2, [], H⟩ else some ⟨1, [isc (findF l n i)], H⟩)
    (by rw [R_eq, e_iaxisOf_0, lt_self]; rfl) (fun i hi r hr => by
      rw [R_eq, e_iaxisOf_0, h.ldk hi, lt_true hi, w1 hi (by omega)]
      unfold findF
      rcases Bool.eq_false_or_eq_true (l[i] == n) with hb | hb
      · simp only [hb, cond_true, if_true]
        rw [if_neg (by omega)]
      · simp only [hb, cond_true, cond_false, Bool.false_eq_true, if_false]
        exact hr)
  have this : R (.loop F.iaxisOf 0) [isc n, ssc a, isc (l.length : Int), isc 0] H = _ := this
  rw [this]
  split
  · rename_i e; rw [e]; rfl
  · rfl
end Go.Abs
/- Plans: what an order costs (impl). -/
namespace Go.Abs
set_option linter.all false
set_option maxRecDepth 10000

def LvOk (dm : Int → Int) (v : List LE) : Prop := ∀ t ∈ v, LabsOk dm t.l
theorem LabsOk.join {dm : Int → Int} {a b : List Int} (ha : LabsOk dm a) (hb : LabsOk dm b) : LabsOk dm (joinL a b) := fun x hx => by
  unfold joinL at hx
  rcases List.mem_append.1 hx with h | h
  · exact ha x h
  · obtain ⟨j, y, hy, e⟩ := colF_mem h
    split at e
    · cases e
    · cases e; exact hb _ hy
theorem resL_sub {op : List Int} {v : List LE} {i j : Nat} (hi : i < v.length) (hj : j < v.length) : ∀ x ∈ resL op v i j, x ∈ joinL v[i].l v[j].l := fun x hx => by
  unfold resL at hx
  rw [getD_le hi, getD_le hj] at hx
  obtain ⟨k, y, hy, e⟩ := colF_mem hx
  split at e
  · cases e; exact hy
  · cases e
theorem LvOk.step {dm : Int → Int} {op : List Int} {v : List LE} {next i j : Nat} {s : Sl} (h : LvOk dm v) (hi : i < v.length) (hj : j < v.length) : LvOk dm (stepV op v next i j s) := fun t ht => by
  unfold stepV at ht
  rcases List.mem_append.1 ht with h1 | h1
  · exact h t ((dropF_sub i j v 0).subset h1)
  · simp at h1; subst h1
    exact fun x hx => (LabsOk.join (h _ (List.getElem_mem hi)) (h _ (List.getElem_mem hj))) x (resL_sub hi hj x hx)
end Go.Abs
/- Plans: peak and cost of an order (impl). -/
namespace Go.Abs
set_option linter.all false
set_option maxRecDepth 10000

def W0 (ts : List Tn) : List (Int × List Int) := (ts.zipIdx).map fun x => ((x.2 : Int), x.1.L)
theorem dimF_in {r : Rg} : ∀ {ts : List Tn}, (∀ t ∈ ts, tensorB r t = true) → ∀ t ∈ ts, ∀ x ∈ t.L, 1 ≤ dimF ts x
  | [], _, t, ht, _, _ => by simp at ht
  | u :: ts, h, t, ht, x, hx => by
    unfold dimF
    have hu := tensor_facts (h u List.mem_cons_self)
    split
    · rename_i hf
      have hm := (findF_mem u.L x 0).1 hf
      have hlt : (findF u.L x 0).toNat < u.D.length := by
        have : findF u.L x 0 < u.L.length := by
          have key : ∀ (l : List Int) (i : Nat), findF l x i < i + l.length ∨ findF l x i = -1 := by
            intro l
            induction l with
            | nil => intro i; exact .inr rfl
            | cons y l ih =>
              intro i
              unfold findF
              split
              · left; simp; omega
              · rcases ih (i + 1) with h | h
                · left; simp only [List.length_cons]; omega
                · exact .inr h
          rcases key u.L 0 with h | h
          · simpa using h
          · omega
        have := hu.1.1
        omega
      simp only [List.getD_eq_getElem?_getD, List.getElem?_eq_getElem hlt, Option.getD_some]
      exact (hu.2.2 _ (List.getElem_mem hlt)).1
    · rename_i hf
      rcases List.mem_cons.1 ht with rfl | ht
      · exact absurd ((findF_mem _ x 0).2 hx) hf
      · exact dimF_in (fun v hv => h v (List.mem_cons_of_mem _ hv)) t ht x hx
theorem tensor_labs {n : Nw} (hn : netB n = true) : ∀ t ∈ n.ts, LabsOk (dimF n.ts) t.L := fun t ht x hx => by
  have hm := net_mem hn
  have h1 := (tensor_facts (hm t ht)).1.2.2 x hx
  exact ⟨h1.1, h1.2, dimF_in hm t ht x hx, dimF_le hm x⟩
theorem start_facts {n : Nw} (hn : netB n = true) {v : List LE} (v2 : vp v = W0 n.ts) :
    v.length = n.ts.length ∧ v.map (·.n) = ((List.range n.ts.length).map fun i : Nat => (i : Int)) ∧ totV v ≤ 144 ∧ (v.map (·.n)).Nodup ∧ (∀ t ∈ v, t.n < ((n.ts.length : Nat) : Int)) ∧ LvOk (dimF n.ts) v := by
  obtain ⟨b1, b2, b3⟩ := netB_small hn
  unfold vp W0 at v2
  have hvl : v.length = n.ts.length := by have := congrArg List.length v2; simpa using this
  have hnums : v.map (·.n) = (List.range n.ts.length).map fun i : Nat => (i : Int) := by
    have := congrArg (List.map Prod.fst) v2
    rw [List.map_map, List.map_map] at this
    have e : (Prod.fst ∘ fun t : LE => (t.n, t.l)) = fun t => t.n := rfl
    rw [e] at this
    rw [this]
    refine List.ext_getElem (by simp) fun i h1 h2 => ?_
    simp
  have hlabs : v.map (fun t => t.l) = n.ts.map (fun t => t.L) := by
    have := congrArg (List.map Prod.snd) v2
    rw [List.map_map, List.map_map] at this
    have e : (Prod.snd ∘ fun t : LE => (t.n, t.l)) = fun t => t.l := rfl
    rw [e] at this
    rw [this]
    refine List.ext_getElem (by simp) fun i h1 h2 => ?_
    simp
  refine ⟨hvl, hnums, ?_, ?_, ?_, ?_⟩
  · have hlens : v.map (fun t => t.l.length) = n.ts.map (fun t => t.L.length) := by
      have := congrArg (List.map List.length) hlabs
      rw [List.map_map, List.map_map] at this
      exact this
    unfold totV
    rw [hlens]
    have key : ∀ l : List Tn, (∀ t ∈ l, t.L.length ≤ 12) → (l.map fun t => t.L.length).sum ≤ l.length * 12 := by
      intro l
      induction l with
      | nil => intro _; simp
      | cons t l ih =>
        intro h
        have h1 := h t List.mem_cons_self
        have h2 := ih fun u hu => h u (List.mem_cons_of_mem _ hu)
        simp only [List.map_cons, List.sum_cons, List.length_cons]
        omega
    have := key n.ts b3
    omega
  · rw [hnums, List.Nodup, List.pairwise_map]
    exact List.pairwise_lt_range.imp fun {a b} hab => by omega
  · intro t ht
    have : t.n ∈ v.map (·.n) := List.mem_map.2 ⟨t, ht, rfl⟩
    rw [hnums] at this
    obtain ⟨i, hi, e⟩ := List.mem_map.1 this
    have := List.mem_range.1 hi
    omega
  · intro t ht
    have : t.l ∈ v.map (fun t => t.l) := List.mem_map.2 ⟨t, ht, rfl⟩
    rw [hlabs] at this
    obtain ⟨u, hu, e⟩ := List.mem_map.1 this
    rw [← e]
    exact tensor_labs hn u hu
/-- impl.startState, with the sizes told. -/
theorem c_start {H : AH} {s u : Sl} {n : Nw} (h : NS H s u n) (hn : netB n = true) :
    ∃ bs D sl v H', R (.fn F.istartState) [npv n.r s u] H = some ⟨1, [.sc (.hp bs 0)], H'⟩ ∧ OS H H' bs D n.op u sl n.ts.length v ∧ vp v = W0 n.ts ∧ DmOk D (dimF n.ts) := by
  obtain ⟨bs, D, sl, v, H', e, O, v2, hD⟩ := c_istartState h hn
  refine ⟨bs, D, sl, v, H', e, O, v2, O.dl, ?_⟩
  have hD0 : Dm (List.replicate 100 0) [] := ⟨by simp, fun y _ _ => by
    simp only [List.getD_eq_getElem?_getD, List.getElem?_replicate]
    split <;> rfl⟩
  rcases dimTs_spec n.ts [] _ hD0 (fun _ h => by simp at h) (net_mem hn) with ⟨k1, D', k2, k3⟩ | ⟨k1, k2⟩
  · rw [hD] at k2; cases k2
    rw [List.nil_append] at k3
    exact k3.get
  · rw [hD] at k2; cases k2
theorem ordB_at {n : Nw} {ps : List Sp} (h : ordB n ps = true) : netB n = true ∧ ps.length = n.ts.length - 1 ∧ orderN ((List.range n.ts.length).map fun i : Nat => (i : Int)) n.ts.length ps = true := by
  simp only [ordB, Bool.and_eq_true, decide_eq_true_eq] at h
  exact ⟨h.1.1, h.1.2, h.2⟩
theorem one_hp {α : Type} (b o : Nat) (k : Nat × Nat → Option α) : ((oneP [.sc (.hp b o)]).bind fun p6 => p6.sc?.bind fun c7 => (ptrAt [c7] 0).bind k) = k (b, o) := rfl
theorem OS.keep {H0 H H' : AH} {bs : Nat} {D op : List Int} {so sl : Sl} {next : Nat} {v : List LE} (h : OS H0 H bs D op so sl next v) (hl : Go.Abs.Le H0 H') (hr : ∀ t ∈ v, t.l ≠ [] → H'[t.s.b]? = H[t.s.b]?) (hs : lcells v ≠ [] → H'[sl.b]? = H[sl.b]?) (hb : H'[bs]? = H[bs]?) : OS H0 H' bs D op so sl next v :=
  ⟨⟨hl, h.fr.rows.frame fun p hp hne => by
    obtain ⟨t, ht, rfl⟩ := List.mem_map.1 hp
    exact hr t ht hne⟩, h.out.keep hs, by rw [hb]; exact h.blk, h.lo, h.dl, h.op⟩
theorem own_ne {n0 : Nat} {H : AH} {s : Sl} {l : List Int} (h : Own n0 H s l) (hl : l ≠ []) {b z : Nat} {cs : List Sc} (hb : H[b]? = some ⟨cs, .rw, z⟩) (hz : z ≠ 1) : b ≠ s.b := fun e => by
  have := h.blk' hl
  rw [← e, hb] at this
  simp at this
  exact hz this.2
end Go.Abs
/- Plans: the cost of an order; copies of steps. -/
namespace Go.Abs
set_option linter.all false
set_option maxRecDepth 10000

end Go.Abs
/- Pure: steps of the axes that are left. -/
namespace Go.Abs
set_option linter.all false

def updS (m S : List Int) (l step : Int) : List Int := (m.zip S).map fun x => if x.1 == l then step else x.2
theorem updS_len {m S : List Int} (h : S.length = m.length) (l step : Int) : (updS m S l step).length = m.length := by simp [updS, h]
def strG (m : List Int) : List Int → List Int → Int → List Int → List Int
  | l :: Lr, d :: Dr, step, S => strG m Lr Dr (step * d) (updS m S l step)
  | _, _, _, S => S
def valS (x : Int) : List Int → List Int → Int → Int → Int
  | l :: Lr, d :: Dr, step, s => valS x Lr Dr (step * d) (if x == l then step else s)
  | _, _, _, s => s
theorem strG_val (m : List Int) : ∀ (Lr Dr : List Int) (step : Int) (S : List Int), S.length = m.length → strG m Lr Dr step S = (m.zip S).map fun x => valS x.1 Lr Dr step x.2
  | [], Dr, step, S, h => by
    simp only [strG, valS]
    exact (List.map_snd_zip (by omega)).symm
  | l :: Lr, [], step, S, h => by
    simp only [strG, valS]
    exact (List.map_snd_zip (by omega)).symm
  | l :: Lr, d :: Dr, step, S, h => by
    simp only [strG, valS]
    rw [strG_val m Lr Dr (step * d) (updS m S l step) (updS_len h l step)]
    refine List.ext_getElem (by simp [updS, h]) fun i h1 h2 => ?_
    simp [updS]
theorem valS_none {x : Int} : ∀ {Lr Dr : List Int} {step s : Int}, x ∉ Lr → valS x Lr Dr step s = s
  | [], _, _, _, _ => rfl
  | l :: Lr, [], _, _, _ => rfl
  | l :: Lr, d :: Dr, step, s, h => by
    have h1 : (x == l) = false := by simp; intro e; exact h (by simp [e])
    simp only [valS, h1, Bool.false_eq_true, if_false]
    exact valS_none fun e => h (by simp [e])
theorem valS_at {x : Int} : ∀ {Lr Dr : List Int} {step s : Int} {q : Nat}, Lr.Nodup → Lr.length = Dr.length → Lr[q]? = some x → (strR step Dr)[q]? = some (valS x Lr Dr step s)
  | [], _, _, _, q, _, _, h => by simp at h
  | l :: Lr, [], _, _, _, _, h, _ => by simp at h
  | l :: Lr, d :: Dr, step, s, 0, hd, hl, h => by
    simp at h; subst h
    simp only [strR, valS, List.getElem?_cons_zero, BEq.rfl, if_true]
    rw [valS_none (List.nodup_cons.1 hd).1]
  | l :: Lr, d :: Dr, step, s, q + 1, hd, hl, h => by
    simp only [strR, valS, List.getElem?_cons_succ] at h ⊢
    exact valS_at (List.nodup_cons.1 hd).2 (by simpa using hl) h
theorem str_full {L D : List Int} (hd : L.Nodup) (hl : L.length = D.length) : (L.map fun x => valS x L.reverse D.reverse 1 0) = strF D := by
  refine List.ext_getElem? fun i => ?_
  rcases Nat.lt_or_ge i L.length with hi | hi
  · have hr : L.reverse[L.length - 1 - i]? = some L[i] := by
      rw [List.getElem?_reverse (by omega), show L.length - 1 - (L.length - 1 - i) = i by omega]
      exact List.getElem?_eq_getElem hi
    have := valS_at (x := L[i]) (Lr := L.reverse) (Dr := D.reverse) (step := 1) (s := 0) (List.pairwise_reverse.2 (List.Pairwise.imp Ne.symm hd)) (by simpa using hl) hr
    unfold strF
    rw [List.getElem?_reverse (by rw [strR_len]; simp; omega), strR_len, List.length_reverse, ← hl, this, List.getElem?_map, List.getElem?_eq_getElem hi]
    rfl
  · rw [List.getElem?_eq_none (by simpa using hi), List.getElem?_eq_none (by rw [strF_len]; omega)]
theorem findF_at : ∀ {l : List Int} {x : Int} {k i : Nat}, findF l x k = (i : Int) → k ≤ i ∧ ∃ h : i - k < l.length, l[i - k] = x
  | [], x, k, i, h => by simp only [findF] at h; omega
  | y :: l, x, k, i, h => by
    unfold findF at h
    split at h
    · rename_i e
      have : i = k := by omega
      subst this
      exact ⟨Nat.le_refl _, by simp, by simpa using e⟩
    · have hh := findF_lo l x (k + 1)
      obtain ⟨h1, h2, h3⟩ := findF_at h
      refine ⟨by omega, by simp; omega, ?_⟩
      rw [List.getElem_cons, dif_neg (by omega)]
      rw [← h3]
      congr 1
theorem dist_nodup : ∀ {l : List Int}, distI l → l.Nodup
  | [], _ => List.nodup_nil
  | x :: l, h => List.nodup_cons.2 ⟨h.1, dist_nodup h.2⟩
end Go.Abs
/- Plans: steps of axes. -/
namespace Go.Abs
set_option linter.all false
set_option maxRecDepth 10000

end Go.Abs
/- Plans: a slice of a tensor at 0 (impl). -/
namespace Go.Abs
set_option linter.all false
set_option maxRecDepth 10000

theorem c_irawElem' {r : Rg} {H : AH} {a b c : Sl} {n w : Nat} (hw : widthR r = (w : Int)) (hn : (n + 1) * w ≤ c.c) (hc : (n + 1) * w ≤ 4611686018427387904) (hn2 : n ≤ 4611686018427387904) (hw2 : w ≤ 6) :
    R (.fn F.irawElem) [r.pv, tpv a b c, isc (n : Int)] H = some ⟨1, [ssc (partAt c w n)], H⟩ := by
  rw [R_eq, e_irawElem, c_irawWidth, hw]
  simp only [Option.bind_some, one_int]
  have h0 : n * w ≤ (n + 1) * w := Nat.mul_le_mul_right _ (by omega)
  have e0 : IntKind.wrap .i64 ((n : Int) + 1) = ((n + 1 : Nat) : Int) := by rw [wrap_id] <;> omega
  have e1 : IntKind.wrap .i64 ((n : Int) * (w : Int)) = ((n * w : Nat) : Int) := by
    rw [← Int.natCast_mul, wrap_id] <;> omega
  have e2 : IntKind.wrap .i64 (((n + 1 : Nat) : Int) * (w : Int)) = (((n + 1) * w : Nat) : Int) := by
    rw [← Int.natCast_mul, wrap_id] <;> omega
  rw [e0, e1, e2, slB_mid h0 hn]
  have e3 : (n + 1) * w - n * w = w := by rw [Nat.succ_mul]; omega
  simp only [Option.bind_some, e3]
end Go.Abs
/- Plans: a slice of a tensor at 0 (impl), whole. -/
namespace Go.Abs
set_option linter.all false
set_option maxRecDepth 10000

theorem prodC_min (lim : Int) : ∀ (l : List Int) (a : Int), 1 ≤ a → a ≤ lim + 1 → (∀ d ∈ l, 1 ≤ d) → prodC lim a l = min (a * prd l) (lim + 1)
  | [], a, h1, h2, _ => by simp only [prodC, prd]; omega
  | d :: l, a, h1, h2, hd => by
    have hd1 := hd d List.mem_cons_self
    have hp := prd_pos (a := l) fun x hx => hd x (List.mem_cons_of_mem _ hx)
    have h3 : a * 1 ≤ a * d := Int.mul_le_mul_of_nonneg_left hd1 (by omega)
    have e : a * prd (d :: l) = a * d * prd l := by simp only [prd]; rw [Int.mul_assoc]
    simp only [prodC]
    by_cases hc : lim + 1 < a * d
    · rw [if_pos hc, prodC_min lim l _ (by omega) (by omega) fun x hx => hd x (List.mem_cons_of_mem _ hx), e]
      have h4 : (lim + 1) * 1 ≤ (lim + 1) * prd l := Int.mul_le_mul_of_nonneg_left hp (by omega)
      have h5 : a * d * 1 ≤ a * d * prd l := Int.mul_le_mul_of_nonneg_left hp (by omega)
      omega
    · rw [if_neg hc, prodC_min lim l _ (by omega) (by omega) fun x hx => hd x (List.mem_cons_of_mem _ hx), e]
structure TOk (r : Rg) (t : Tn) : Prop where
  rg : ringB r = true
  ax : axesB t.L t.D = true
  d : DimsOk t.D
  len : (t.X.length : Int) = prd t.D * widthR r
  all : t.X.all (fun x => inB x 0 (topR r)) = true
theorem tensor_ok {r : Rg} {t : Tn} (h : tensorB r t = true) : TOk r t := by
  have hax := (tensor_dims h).2.2
  have hd := axes_dims hax
  simp only [tensorB, Bool.and_eq_true, decide_eq_true_eq] at h
  obtain ⟨⟨⟨h1, h2⟩, h3⟩, h4⟩ := h
  have hge : ∀ d ∈ t.D, 1 ≤ d := fun d hx => (hd.2.2 d hx).1
  have hp := prodC_min 4096 t.D 1 (by omega) (by omega) hge
  rw [Int.one_mul] at hp
  have hpos := prd_pos hge
  unfold sizeB at h2 h3
  rw [if_pos hax] at h2 h3
  by_cases hc : prodC 4096 1 t.D > 4096
  · rw [if_pos hc] at h2; exact absurd rfl h2
  · rw [if_neg hc] at h3
    have he : prodC 4096 1 t.D = prd t.D := by omega
    rw [he] at h3
    exact ⟨h1, hax, ⟨by have := hd.1; have := hd.2.1; omega, hd.2.2, by omega⟩, h3, h4⟩
theorem tensor_mk {r : Rg} {t : Tn} (h : TOk r t) : tensorB r t = true := by
  have hp : prodC 4096 1 t.D = prd t.D := by rw [prodC_eq (by omega) h.d.ge (by have := h.d.2.2; omega), Int.one_mul]
  have hs : sizeB t.L t.D = prd t.D := by
    unfold sizeB
    rw [if_pos h.ax, hp, if_neg (by have := h.d.2.2; omega)]
  have hpos := prd_pos h.d.ge
  simp only [tensorB, Bool.and_eq_true, decide_eq_true_eq, hs]
  exact ⟨⟨⟨h.rg, by omega⟩, h.len⟩, h.all⟩
end Go.Abs
/- Plans: a slice of a tensor, the call. -/
namespace Go.Abs
set_option linter.all false
set_option maxRecDepth 10000

end Go.Abs
/- Pure: a network sliced at a label. -/
namespace Go.Abs
set_option linter.all false

def slSh (x : Int) (L D : List Int) : List Int × List Int := if 0 ≤ findF L x 0 then (L.eraseIdx (findF L x 0).toNat, D.eraseIdx (findF L x 0).toNat) else (L, D)
structure SlT (r : Rg) (x : Int) (t t' : Tn) : Prop where
  sh : (t'.L, t'.D) = slSh x t.L t.D
  ok : tensorB r t' = true
inductive SlL (r : Rg) (x : Int) : List Tn → List Tn → Prop where
  | nil : SlL r x [] []
  | cons {t t' : Tn} {ts ts' : List Tn} : SlT r x t t' → SlL r x ts ts' → SlL r x (t :: ts) (t' :: ts')
theorem SlL.app {r : Rg} {x : Int} {a a' b b' : List Tn} (h : SlL r x a a') (k : SlL r x b b') : SlL r x (a ++ b) (a' ++ b') := by
  induction h with
  | nil => exact k
  | cons h1 _ ih => exact .cons h1 ih
theorem SlL.len {r : Rg} {x : Int} {a a' : List Tn} (h : SlL r x a a') : a'.length = a.length := by
  induction h with
  | nil => rfl
  | cons _ _ ih => simp [ih]
theorem SlL.ok {r : Rg} {x : Int} {a a' : List Tn} (h : SlL r x a a') : ∀ t ∈ a', tensorB r t = true := by
  induction h with
  | nil => intro t ht; simp at ht
  | cons h1 _ ih =>
    intro t ht
    rcases List.mem_cons.1 ht with rfl | ht
    · exact h1.ok
    · exact ih t ht
def lk : List Int → List Int → Int → Option Int
  | a :: L, d :: D, y => if a == y then some d else lk L D y
  | _, _, _ => none
theorem lk_find : ∀ {L D : List Int} (y : Int) (k : Nat), L.length = D.length → (lk L D y = none ∧ findF L y k = -1) ∨ (∃ d, lk L D y = some d ∧ (k : Int) ≤ findF L y k ∧ D.getD ((findF L y k).toNat - k) 0 = d)
  | [], [], y, k, _ => .inl ⟨rfl, rfl⟩
  | a :: L, d :: D, y, k, h => by
    unfold lk findF
    by_cases e : (a == y) = true
    · rw [if_pos e, if_pos e]
      exact .inr ⟨d, rfl, Int.le_refl _, by simp⟩
    · rw [if_neg e, if_neg e]
      rcases lk_find (L := L) (D := D) y (k + 1) (by simpa using h) with ⟨h1, h2⟩ | ⟨d', h1, h2, h3⟩
      · exact .inl ⟨h1, h2⟩
      · refine .inr ⟨d', h1, by omega, ?_⟩
        have : (findF L y (k + 1)).toNat - k = ((findF L y (k + 1)).toNat - (k + 1)) + 1 := by omega
        rw [this]
        simpa using h3
  | [], _ :: _, _, _, h => by simp at h
  | _ :: _, [], _, _, h => by simp at h
theorem lk_dim {t : Tn} {ts : List Tn} (y : Int) (h : t.L.length = t.D.length) : dimF (t :: ts) y = (lk t.L t.D y).getD (dimF ts y) := by
  have e : dimF (t :: ts) y = if 0 ≤ findF t.L y 0 then t.D.getD (findF t.L y 0).toNat 0 else dimF ts y := rfl
  rw [e]
  rcases lk_find y 0 h with ⟨h1, h2⟩ | ⟨d, h1, h2, h3⟩
  · rw [h1, if_neg (by omega)]; rfl
  · rw [h1, if_pos (by omega)]
    simpa using h3
theorem lk_erase : ∀ {L D : List Int} {j : Nat} {y : Int} (hj : j < L.length), L[j] ≠ y → lk (L.eraseIdx j) (D.eraseIdx j) y = lk L D y
  | [], _, _, _, hj, _ => by simp at hj
  | a :: L, [], 0, y, hj, h => by
    simp only [List.eraseIdx_cons_zero, List.eraseIdx_nil]
    cases L <;> rfl
  | a :: L, [], j + 1, y, hj, h => by simp [lk]
  | a :: L, d :: D, 0, y, hj, h => by
    have e : (a == y) = false := by simpa using h
    simp [lk, e]
  | a :: L, d :: D, j + 1, y, hj, h => by
    simp only [List.eraseIdx_cons_succ, lk]
    rw [lk_erase (by simpa using hj) (by simpa using h)]
theorem SlT.lk {r : Rg} {x : Int} {t t' : Tn} (h : SlT r x t t') {y : Int} (hy : y ≠ x) : lk t'.L t'.D y = lk t.L t.D y := by
  have hs := h.sh
  unfold slSh at hs
  by_cases hf : 0 ≤ findF t.L x 0
  · rw [if_pos hf] at hs
    obtain ⟨j, hj⟩ : ∃ j : Nat, findF t.L x 0 = (j : Int) := ⟨(findF t.L x 0).toNat, by omega⟩
    rw [hj, Int.toNat_natCast] at hs
    obtain ⟨_, hjl, hjx⟩ := findF_at hj
    simp only [Nat.sub_zero] at hjl hjx
    have h1 := congrArg Prod.fst hs
    have h2 := congrArg Prod.snd hs
    simp only at h1 h2
    rw [h1, h2]
    exact lk_erase hjl (by rw [hjx]; exact Ne.symm hy)
  · rw [if_neg hf] at hs
    have h1 := congrArg Prod.fst hs
    have h2 := congrArg Prod.snd hs
    simp only at h1 h2
    rw [h1, h2]
theorem SlL.dim {r : Rg} {x : Int} {a a' : List Tn} (h : SlL r x a a') (hok : ∀ t ∈ a, tensorB r t = true) {y : Int} (hy : y ≠ x) : dimF a' y = dimF a y := by
  induction h with
  | nil => rfl
  | cons h1 _ ih =>
    rw [lk_dim y (tensor_dims h1.ok).1, lk_dim y (tensor_dims (hok _ List.mem_cons_self)).1, h1.lk hy, ih fun t ht => hok t (List.mem_cons_of_mem _ ht)]
structure SlN (x : Int) (n n' : Nw) : Prop where
  r : n'.r = n.r
  op : n'.op = n.op
  ts : SlL n.r x n.ts n'.ts
end Go.Abs
/- Plans: a slice of a network at 0 (impl). -/
namespace Go.Abs
set_option linter.all false
set_option maxRecDepth 10000

/-- impl.copyTensor, made anew -/
theorem n_icopyTensor {H : AH} {a b c : Sl} {t : Tn} (h : TS H a b c t) (hs : TnSmall t) :
    ∃ a' b' c' H', R (.fn F.icopyTensor) [tpv a b c] H = some ⟨1, [tpv a' b' c'], H'⟩ ∧ NewT H H' a' b' c' t := by
  obtain ⟨a', H1, e1, l1, o1⟩ := c_icopyInts h.L (by have := hs.1; omega)
  obtain ⟨b', H2, e2, l2, o2⟩ := c_icopyInts (h.D.le l1) (by have := hs.2.1; omega)
  obtain ⟨c', H3, e3, l3, o3⟩ := c_icopyInts (h.X.le (l1.trans l2)) (by have := hs.2.2; omega)
  have F3 := (((Fr.start H).new l1 o1).new l2 o2).new l3 o3
  refine ⟨a', b', c', H3, ?_, ⟨F3.le, F3.rows.perm (List.reverse_perm [(c', t.X), (b', t.D), (a', t.L)])⟩⟩
  rw [R_eq, e_icopyTensor, e1]
  simp only [Option.bind_some, one_sl]
  rw [e2]
  simp only [Option.bind_some, one_sl]
  rw [e3]
  simp only [Option.bind_some, one_sl]
theorem agg3z {α : Type} (a b c : Sl) (k : Sl → Sl → Sl → Option α) : (((nthP [tpv a b c] 0).bind PV.agg?).bind fun l30 => cond (decide (l30.length = 3)) ((slAt l30 0).bind fun s31 => (slAt l30 1).bind fun s32 => (slAt l30 2).bind fun s33 => k s31 s32 s33) none) = k a b c := rfl
end Go.Abs
/- Plans: a network sliced at labels (impl). -/
namespace Go.Abs
set_option linter.all false
set_option maxRecDepth 10000

def shp (ts : List Tn) : List (List Int × List Int) := ts.map fun t => (t.L, t.D)
def slS (x : Int) (S : List (List Int × List Int)) : List (List Int × List Int) := S.map fun p => slSh x p.1 p.2
theorem SlL.shp {r : Rg} {x : Int} {a a' : List Tn} (h : SlL r x a a') : shp a' = slS x (shp a) := by
  induction h with
  | nil => rfl
  | cons h1 _ ih =>
    unfold Go.Abs.shp slS at ih ⊢
    simp only [List.map_cons, ih, h1.sh]
theorem dim_shp : ∀ {a b : List Tn}, shp a = shp b → dimF a = dimF b
  | [], [], _ => rfl
  | t :: a, u :: b, h => by
    unfold shp at h
    simp only [List.map_cons, List.cons.injEq, Prod.mk.injEq] at h
    have ih := dim_shp (a := a) (b := b) h.2
    funext y
    show (if 0 ≤ findF t.L y 0 then t.D.getD (findF t.L y 0).toNat 0 else dimF a y) = (if 0 ≤ findF u.L y 0 then u.D.getD (findF u.L y 0).toNat 0 else dimF b y)
    rw [h.1.1, h.1.2, ih]
  | [], _ :: _, h => by simp [shp] at h
  | _ :: _, [], h => by simp [shp] at h
theorem len_shp {a b : List Tn} (h : shp a = shp b) : a.length = b.length := by have := congrArg List.length h; simpa [shp] using this
end Go.Abs
/- Plans: a plan is made (impl). -/
namespace Go.Abs
set_option linter.all false
set_option maxRecDepth 10000

def scs (ps : List Sp) : List Sc := (ps.map fun g => [Sc.int .i64 g.a, Sc.int .i64 g.b]).flatten
theorem scs_len : ∀ ps : List Sp, (scs ps).length = ps.length * 2
  | [] => rfl
  | g :: ps => by
    have := scs_len ps
    simp only [scs, List.map_cons, List.flatten_cons, List.length_append, List.length_cons, List.length_nil] at this ⊢
    omega
theorem scs_get : ∀ (ps : List Sp) (i : Nat) (g : Sp), ps[i]? = some g → (scs ps)[i * 2]? = some (.int .i64 g.a) ∧ (scs ps)[i * 2 + 1]? = some (.int .i64 g.b)
  | [], i, g, h => by simp at h
  | x :: ps, 0, g, h => by simp at h; subst h; simp [scs]
  | x :: ps, i + 1, g, h => by
    have := scs_get ps i g (by simpa using h)
    have e : (i + 1) * 2 = i * 2 + 2 := by omega
    have e2 : scs (x :: ps) = [Sc.int .i64 x.a, Sc.int .i64 x.b] ++ scs ps := rfl
    have e3 : i * 2 + 2 + 1 = (i * 2 + 1) + 2 := by omega
    rw [e2, e, e3]
    refine ⟨?_, ?_⟩
    · rw [List.getElem?_append_right (by simp)]; simpa using this.1
    · rw [List.getElem?_append_right (by simp)]; simpa using this.2
theorem S2.rng {H : AH} {s : Sl} {ps : List Sp} (h : S2 H s ps) : rng H s.b s.o (s.n * 2) = some (scs ps) := by
  unfold Go.Abs.rng
  obtain ⟨h1, h2, h3⟩ := h
  by_cases he : ps = []
  · subst he
    rw [if_pos (by rw [h1]; rfl)]; rfl
  · rcases h3 with e | ⟨cs, hc, hg⟩
    · exact absurd e he
    · have hl : 0 < ps.length := List.length_pos_iff.2 he
      rw [if_neg (by omega), hc]
      simp only [Option.bind_some]
      have hlast := (hg (ps.length - 1) _ (List.getElem?_eq_getElem (show ps.length - 1 < ps.length by omega))).2
      have hb := (List.getElem?_eq_some_iff.1 hlast).1
      rw [if_pos (by rw [h1]; omega)]
      congr 1
      refine List.ext_getElem? fun i => ?_
      rw [List.getElem?_take, List.getElem?_drop]
      by_cases hi : i < s.n * 2
      · rw [if_pos hi]
        have hq : i / 2 < ps.length := by omega
        have g1 := hg (i / 2) _ (List.getElem?_eq_getElem hq)
        have g2 := scs_get ps (i / 2) _ (List.getElem?_eq_getElem hq)
        rcases Nat.mod_two_eq_zero_or_one i with hm | hm
        · have e : i = i / 2 * 2 := by omega
          have e' : s.o + i = s.o + i / 2 * 2 := by omega
          rw [e', g1.1]
          conv => rhs; rw [e]
          exact g2.1.symm
        · have e : i = i / 2 * 2 + 1 := by omega
          have e' : s.o + i = s.o + i / 2 * 2 + 1 := by omega
          rw [e', g1.2]
          conv => rhs; rw [e]
          exact g2.2.symm
      · rw [if_neg hi, List.getElem?_eq_none (by rw [scs_len]; omega)]
/-- A row of steps of its own. -/
structure SOwn (n0 : Nat) (H : AH) (s : Sl) (ps : List Sp) : Prop where
  o : s.o = 0
  n : s.n = ps.length
  c : s.c = ps.length
  blk : (ps = [] ∧ s.x = true) ∨ (ps ≠ [] ∧ n0 ≤ s.b ∧ H[s.b]? = some ⟨scs ps, .rw, 2⟩)
theorem SOwn.s2 {n0 : Nat} {H : AH} {s : Sl} {ps : List Sp} (h : SOwn n0 H s ps) : S2 H s ps := by
  refine ⟨h.n, by rw [h.n, h.c]; exact Nat.le_refl _, ?_⟩
  rcases h.blk with ⟨e, _⟩ | ⟨_, _, e⟩
  · exact .inl e
  · exact .inr ⟨scs ps, by unfold rdB; rw [e]; rfl, fun i g hi => by rw [h.o, Nat.zero_add]; exact scs_get ps i g hi⟩
theorem SOwn.le {n0 : Nat} {H H' : AH} {s : Sl} {ps : List Sp} (h : SOwn n0 H s ps) (hl : Go.Abs.Le H H') : SOwn n0 H' s ps :=
  ⟨h.o, h.n, h.c, h.blk.imp id fun ⟨a, b, c⟩ => ⟨a, b, by rw [hl.get _ (List.getElem?_eq_some_iff.1 c).1]; exact c⟩⟩
end Go.Abs
/- Plans: a slice of a tensor at 0 (spec). -/
namespace Go.Abs
set_option linter.all false
set_option maxRecDepth 10000

/-- spec.l05Copy -/
theorem n_sl05Copy {H : AH} {a b c : Sl} {t : Tn} (h : TS H a b c t) (hs : TnSmall t) :
    ∃ a' b' c' H', R (.fn F.sl05Copy) [tpv a b c] H = some ⟨1, [tpv a' b' c'], H'⟩ ∧ NewT H H' a' b' c' t := by
  obtain ⟨a', H1, e1, l1, o1⟩ := c_sl05Ints h.L (by have := hs.1; omega)
  obtain ⟨b', H2, e2, l2, o2⟩ := c_sl05Ints (h.D.le l1) (by have := hs.2.1; omega)
  obtain ⟨c', H3, e3, l3, o3⟩ := c_sl05Ints (h.X.le (l1.trans l2)) (by have := hs.2.2; omega)
  have F3 := (((Fr.start H).new l1 o1).new l2 o2).new l3 o3
  refine ⟨a', b', c', H3, ?_, ⟨F3.le, F3.rows.perm (List.reverse_perm [(c', t.X), (b', t.D), (a', t.L)])⟩⟩
  rw [R_eq, e_sl05Copy, e1]
  simp only [Option.bind_some, one_sl]
  rw [e2]
  simp only [Option.bind_some, one_sl]
  rw [e3]
  simp only [Option.bind_some, one_sl]
/-- spec.l05Get -/
theorem c_sl05Get {r : Rg} {H : AH} {a b c : Sl} {X : List Int} {n w : Nat} (hX : IS H c X) (hw : widthR r = (w : Int)) (hw1 : 1 ≤ w) (hw6 : w ≤ 6) (hn : n * w + w ≤ X.length) (hb : n * w + w ≤ 1048576) (hn2 : n ≤ 1048576) :
    ∃ s' H', R (.fn F.sl05Get) [r.pv, tpv a b c, isc (n : Int)] H = some ⟨1, [ssc s'], H'⟩ ∧ Go.Abs.Le H H' ∧ Own H.length H' s' ((X.drop (n * w)).take w) := by
  have hcn : X.length ≤ c.c := by have := hX.n; have := hX.c; omega
  have e1 : IntKind.wrap .i64 ((n : Int) * (w : Int)) = ((n * w : Nat) : Int) := by
    rw [← Int.natCast_mul, wrap_id] <;> omega
  have e2 : IntKind.wrap .i64 (((n * w : Nat) : Int) + (w : Int)) = ((n * w + w : Nat) : Int) := by
    rw [wrap_id] <;> omega
  have l1 := Go.Abs.Le.app H [⟨[], .rw, 1⟩]
  have hpart := (hX.le l1).part (o := n * w) (m := w) hn
  have hml : ((X.drop (n * w)).take w).length = w := by simp; omega
  have hne : (X.drop (n * w)).take w ≠ [] := fun e => by rw [e] at hml; simp at hml; omega
  have hap := app_nil (H := H ++ [⟨[], .rw, 1⟩]) (b := H.length) (l := (X.drop (n * w)).take w) (by omega)
  rw [hml, if_neg hne] at hap
  refine ⟨⟨(H ++ [⟨[], .rw, 1⟩] : AH).length, 0, w, w, false⟩, (H ++ [⟨[], .rw, 1⟩]) ++ [⟨ics ((X.drop (n * w)).take w), .rw, 1⟩], ?_, l1.trans (Go.Abs.Le.app _ _), ?_⟩
  rotate_left
  · have := Own.new (n0 := H.length) (H := H ++ [⟨[], .rw, 1⟩]) (l := (X.drop (n * w)).take w) (x := false) (by simp) (fun e => absurd e hne)
    rw [hml] at this
    exact this
  · rw [R_eq, e_sl05Get, c_sl02Width, hw]
    simp only [Option.bind_some, one_int]
    have hnb : newB H 1 [] = some (H.length, H ++ [⟨[], .rw, 1⟩]) := rfl
    rw [hnb]
    simp only [Option.bind_some]
    rw [e1, e2, slB_mid (by omega) (by omega)]
    simp only [Option.bind_some, show n * w + w - n * w = w by omega]
    rw [hpart.rng]
    simp only [Option.bind_some]
    rw [hap]
    rfl
end Go.Abs
/- Plans: a network sliced at labels (spec). -/
namespace Go.Abs
set_option linter.all false
set_option maxRecDepth 10000

theorem NewT.ext {H H1 H2 : AH} {a b c : Sl} {t : Tn} (h : NewT H H1 a b c t) (k : Go.Abs.Le H1 H2) : NewT H H2 a b c t := ⟨h.le.trans k, h.rows.le k⟩
theorem agg5 {α : Type} (r : Rg) (s u : Sl) (k : Int → Int → Int → Sl → Sl → Option α) : (((nthP [npv r s u] 0).bind PV.agg?).bind fun l12 => cond (decide (l12.length = 5)) ((intAt .i64 l12 0).bind fun n13 => (intAt .i64 l12 1).bind fun n14 => (intAt .i64 l12 2).bind fun n15 => (slAt l12 3).bind fun s16 => (slAt l12 4).bind fun s17 => k n13 n14 n15 s16 s17) none) = k r.k r.p r.n s u := rfl
end Go.Abs
/- Plans: joins and what is kept (spec). -/
namespace Go.Abs
set_option linter.all false
set_option maxRecDepth 10000

theorem joinL_take (a b : List Int) {i : Nat} (h : i < b.length) : joinL a (b.take (i + 1)) = if (a.any fun y => b[i] == y) then joinL a (b.take i) else joinL a (b.take i) ++ [b[i]] := by
  unfold joinL
  rw [take_snoc h, colF_app]
  simp only [colF, List.append_nil]
  by_cases hc : (a.any fun y => b[i] == y) = true
  · rw [if_pos hc, if_pos hc]; simp
  · rw [if_neg hc, if_neg hc]; simp
theorem joinL_mem {a b : List Int} (hb : b.Nodup) {i : Nat} (h : i < b.length) : b[i] ∈ joinL a (b.take i) ↔ b[i] ∈ a := by
  unfold joinL
  constructor
  · intro hm
    rcases List.mem_append.1 hm with h1 | h1
    · exact h1
    · exfalso
      obtain ⟨j, y, hy, e⟩ := colF_mem h1
      split at e
      · cases e
      · cases e
        obtain ⟨k, hk, hkl, e2⟩ : ∃ k, k < i ∧ ∃ h : k < b.length, b[k] = b[i] := by
          obtain ⟨k, hk⟩ := List.getElem?_of_mem hy
          rw [List.getElem?_take] at hk
          split at hk
          · rename_i hki
            exact ⟨k, hki, by omega, by rw [List.getElem?_eq_getElem (by omega)] at hk; exact Option.some.inj hk⟩
          · cases hk
        have := (List.nodup_iff_pairwise_ne.1 hb)
        exact absurd e2 ((List.pairwise_iff_getElem.1 this) k i hkl h hk)
  · exact fun hm => List.mem_append.2 (.inl hm)
/-- spec.l08Join, of axes whose sizes are told by one function -/
theorem c_sl08Join {H : AH} {a b c a' b' c' : Sl} {L M : List Int} {dm : Int → Int} (hL : IS H a L) (hD : IS H b (L.map dm)) (hM : IS H a' M) (hE : IS H b' (M.map dm)) (hn : M.Nodup) (hs : L.length + M.length ≤ 100000) :
    ∃ s1 s2 H', R (.fn F.sl08Join) [tpv a b c, tpv a' b' c'] H = some ⟨1, [ssc s1, ssc s2, bsc true], H'⟩ ∧ Go.Abs.Le H H' ∧ IS H' s1 (joinL L M) ∧ IS H' s2 ((joinL L M).map dm) := by
  obtain ⟨s1, H1, e1, l1, o1⟩ := c_sl05Ints hL (by omega)
  obtain ⟨s2, H2, e2, l2, o2⟩ := c_sl05Ints (hD.le l1) (by simp; omega)
  have F2 : Fr H H2 [(s2, L.map dm), (s1, L)] := ((Fr.start H).new l1 o1).new l2 o2
  have loop : ∀ (k i : Nat), i + k = M.length → ∀ (Hc : AH) (u1 u2 : Sl), Fr H Hc [(u2, (joinL L (M.take i)).map dm), (u1, joinL L (M.take i))] →
      ∃ v1 v2 H', R (.loop F.sl08Join 0) [ssc u1, ssc u2, ssc a', isc (M.length : Int), isc (i : Int), tpv a' b' c'] Hc = some ⟨2, [ssc v1, ssc v2], H'⟩ ∧ Fr H H' [(v2, (joinL L M).map dm), (v1, joinL L M)] := by
    intro k
    induction k with
    | zero =>
      intro i hi Hc u1 u2 hF
      obtain rfl : i = M.length := by omega
      rw [List.take_length] at hF
      exact ⟨u1, u2, Hc, by rw [R_eq, e_sl08Join_0, lt_self]; rfl, hF⟩
    | succ k ih =>
      intro i hi Hc u1 u2 hF
      have hlt : i < M.length := by omega
      have hjl : (joinL L (M.take i)).length ≤ 100000 := Nat.le_trans (joinL_len _ _) (by simp; omega)
      have e3 := c_sl05Find (hF.is (s := u1) (l := joinL L (M.take i)) (by simp)) (by omega) M[i]
      have hmem := joinL_mem (a := L) hn hlt
      have hany : (L.any fun y => M[i] == y) = true ↔ M[i] ∈ L := by simp
      have hltd : i < (M.map dm).length := by simpa using hlt
      by_cases hin : M[i] ∈ L
      · have hf := (findF_mem (joinL L (M.take i)) M[i] 0).2 (hmem.2 hin)
        obtain ⟨p, hp⟩ : ∃ p : Nat, findF (joinL L (M.take i)) M[i] 0 = (p : Int) := ⟨(findF (joinL L (M.take i)) M[i] 0).toNat, by omega⟩
        obtain ⟨_, hpl, hpx⟩ := findF_at hp
        simp only [Nat.sub_zero] at hpl hpx
        have hpd : p < ((joinL L (M.take i)).map dm).length := by simpa using hpl
        have hj := joinL_take L M hlt
        rw [if_pos (hany.2 hin)] at hj
        obtain ⟨v1, v2, H', e, F3⟩ := ih (i + 1) (by omega) Hc u1 u2 (by rw [hj]; exact hF)
        refine ⟨v1, v2, H', ?_, F3⟩
        have hne : (((joinL L (M.take i)).map dm)[p] != (M.map dm)[i]) = false := by
          simp only [List.getElem_map, hpx]; exact ne_i _
        rw [R_eq, e_sl08Join_0, lt_true hlt, w1 hlt (by omega), cond_true, (hM.le hF.le).ldk hlt, e3]
        simp only [Option.bind_some, one_int]
        rw [decide_eq_true (show findF (joinL L (M.take i)) M[i] 0 ≥ 0 from hf), cond_true, hp, (hF.is (s := u2) (l := (joinL L (M.take i)).map dm) (by simp)).ldk hpd, (hE.le hF.le).ldk hltd, hne, cond_false]
        simp only [Option.bind_some, Nat.beq, cond_true]
        rw [decide_eq_false (show ¬ (p : Int) < 0 by omega), cond_false]
        exact e
      · have hf : ¬ 0 ≤ findF (joinL L (M.take i)) M[i] 0 := fun h => hin (hmem.1 ((findF_mem _ _ 0).1 h))
        have hj := joinL_take L M hlt
        rw [if_neg (fun h => hin (hany.1 h))] at hj
        obtain ⟨u1', H3, e4, F3⟩ := Fr.push [(u2, (joinL L (M.take i)).map dm)] (ys := []) (s := u1) (l := joinL L (M.take i)) hF (by omega) M[i]
        obtain ⟨u2', H4, e5, F4⟩ := Fr.push [] (ys := [(u1', joinL L (M.take i) ++ [M[i]])]) (s := u2) (l := (joinL L (M.take i)).map dm) F3 (by simp; omega) (dm M[i])
        have F3' : Fr H H3 [(u2, (joinL L (M.take i)).map dm), (u1', joinL L (M.take i) ++ [M[i]])] := F3
        have F4' : Fr H H4 [(u2', (joinL L (M.take (i + 1))).map dm), (u1', joinL L (M.take (i + 1)))] := by
          rw [hj, List.map_append]; exact F4
        obtain ⟨v1, v2, H', e, F5⟩ := ih (i + 1) (by omega) H4 u1' u2' F4'
        refine ⟨v1, v2, H', ?_, F5⟩
        have hdi : (M.map dm)[i] = dm M[i] := by simp
        rw [R_eq, e_sl08Join_0, lt_true hlt, w1 hlt (by omega), cond_true, (hM.le hF.le).ldk hlt, e3]
        simp only [Option.bind_some, one_int]
        rw [decide_eq_false (show ¬ findF (joinL L (M.take i)) M[i] 0 ≥ 0 from hf), cond_false]
        simp only [Option.bind_some, Nat.beq, cond_true]
        rw [decide_eq_true (show findF (joinL L (M.take i)) M[i] 0 < 0 from Int.not_le.1 hf), cond_true, e4, (hE.le F3'.le).ldk hltd, hdi, e5]
        exact e
  have hj0 : joinL L (M.take 0) = L := by simp [joinL, colF]
  obtain ⟨v1, v2, H', e, F3⟩ := loop M.length 0 (by omega) H2 s1 s2 (by rw [hj0]; exact F2)
  refine ⟨v1, v2, H', ?_, F3.le, F3.is (by simp), F3.is (by simp)⟩
  have e : R (.loop F.sl08Join 0) [ssc s1, ssc s2, ssc a', isc (M.length : Int), isc 0, tpv a' b' c'] H2 = _ := e
  rw [R_eq, e_sl08Join, e1]
  simp only [Option.bind_some, one_sl]
  rw [e2]
  simp only [Option.bind_some, one_sl]
  rw [hM.n, e]
  rfl
/-- spec.l08Keep -/
theorem c_sl08Keep {H : AH} {s1 s2 s3 : Sl} {L K : List Int} {dm : Int → Int} (hL : IS H s1 L) (hD : IS H s2 (L.map dm)) (hK : IS H s3 K) (hl : L.length ≤ 100000) (hk : K.length ≤ 1048576) :
    ∃ a b H', R (.fn F.sl08Keep) [ssc s1, ssc s2, ssc s3] H = some ⟨1, [tpv a b ⟨0, 0, 0, 0, true⟩], H'⟩ ∧ Fr H H' [(a, L.filter fun x => K.any fun y => x == y), (b, (L.filter fun x => K.any fun y => x == y).map dm)] := by
  have loop : ∀ (k i : Nat), i + k = L.length → ∀ (Hc : AH) (u1 u2 : Sl), Fr H Hc [(u1, (L.take i).filter fun x => K.any fun y => x == y), (u2, ((L.take i).filter fun x => K.any fun y => x == y).map dm)] →
      ∃ v1 v2 H', R (.loop F.sl08Keep 0) [ssc s2, ssc s3, ssc s1, isc (L.length : Int), isc (i : Int), tpv u1 u2 ⟨0, 0, 0, 0, true⟩] Hc = some ⟨2, [tpv v1 v2 ⟨0, 0, 0, 0, true⟩], H'⟩ ∧ Fr H H' [(v1, L.filter fun x => K.any fun y => x == y), (v2, (L.filter fun x => K.any fun y => x == y).map dm)] := by
    intro k
    induction k with
    | zero =>
      intro i hi Hc u1 u2 hF
      obtain rfl : i = L.length := by omega
      rw [List.take_length] at hF
      exact ⟨u1, u2, Hc, by rw [R_eq, e_sl08Keep_0, lt_self]; rfl, hF⟩
    | succ k ih =>
      intro i hi Hc u1 u2 hF
      have hlt : i < L.length := by omega
      have hltd : i < (L.map dm).length := by simpa using hlt
      have hfl : ((L.take i).filter fun x => K.any fun y => x == y).length ≤ 100000 := Nat.le_trans (List.length_filter_le _ _) (by simp; omega)
      have e3 := c_sl05Find (hK.le hF.le) hk L[i]
      have hfa := find_any K L[i]
      have hsn : (L.take (i + 1)).filter (fun x => K.any fun y => x == y) = (L.take i).filter (fun x => K.any fun y => x == y) ++ (if (K.any fun y => L[i] == y) then [L[i]] else []) := by
        rw [take_snoc hlt, List.filter_append]
        congr 1
        simp only [List.filter_cons, List.filter_nil]
      cases hc : (K.any fun y => L[i] == y) with
      | false =>
        rw [hc] at hfa hsn
        simp only [Bool.false_eq_true, if_false, List.append_nil] at hsn
        obtain ⟨v1, v2, H', e, F5⟩ := ih (i + 1) (by omega) Hc u1 u2 (by rw [hsn]; exact hF)
        refine ⟨v1, v2, H', ?_, F5⟩
        rw [R_eq, e_sl08Keep_0, lt_true hlt, w1 hlt (by omega), cond_true, (hL.le hF.le).ldk hlt, e3]
        simp only [Option.bind_some, one_int, hfa, cond_false]
        exact e
      | true =>
        rw [hc] at hfa hsn
        simp only [if_true] at hsn
        obtain ⟨u1', H3, e4, F3⟩ := Fr.push [] (ys := [(u2, ((L.take i).filter fun x => K.any fun y => x == y).map dm)]) (s := u1) (l := (L.take i).filter fun x => K.any fun y => x == y) hF (by omega) L[i]
        obtain ⟨u2', H4, e5, F4⟩ := Fr.push [(u1', ((L.take i).filter fun x => K.any fun y => x == y) ++ [L[i]])] (ys := []) (s := u2) (l := ((L.take i).filter fun x => K.any fun y => x == y).map dm) F3 (by simp; omega) (dm L[i])
        have F3' : Fr H H3 [(u1', ((L.take i).filter fun x => K.any fun y => x == y) ++ [L[i]]), (u2, ((L.take i).filter fun x => K.any fun y => x == y).map dm)] := F3
        obtain ⟨v1, v2, H', e, F5⟩ := ih (i + 1) (by omega) H4 u1' u2' (by rw [hsn, List.map_append]; exact F4)
        refine ⟨v1, v2, H', ?_, F5⟩
        have hdi : (L.map dm)[i] = dm L[i] := by simp
        have hnb : newAt (H3 ++ [resB]) (H3.length + 0) 1 [.int .i64 (dm L[i])] = newB H3 1 [.int .i64 (dm L[i])] := by
          rw [Nat.add_zero, newAt_ok (by simp) (by omega)]
          simp [newB]
        rw [R_eq, e_sl08Keep_0, lt_true hlt, w1 hlt (by omega), cond_true, (hL.le hF.le).ldk hlt, e3]
        simp only [Option.bind_some, one_int, hfa, cond_true]
        rw [e4, reserve1, (hD.le (F3'.le.trans (Go.Abs.Le.app H3 [resB]))).ldk hltd, hdi, hnb, e5]
        exact e
  obtain ⟨v1, v2, H', e, F3⟩ := loop L.length 0 (by omega) H ⟨0, 0, 0, 0, true⟩ ⟨0, 0, 0, 0, true⟩ (((Fr.start H).empty 0).empty 0)
  refine ⟨v1, v2, H', ?_, F3⟩
  have e : R (.loop F.sl08Keep 0) [ssc s2, ssc s3, ssc s1, isc (L.length : Int), isc 0, tpv ⟨0, 0, 0, 0, true⟩ ⟨0, 0, 0, 0, true⟩ ⟨0, 0, 0, 0, true⟩] H = _ := e
  rw [R_eq, e_sl08Keep, hL.n, e]
  simp only [Option.bind_some, Nat.beq, cond_true]
  rw [agg3z]
end Go.Abs
/- Plans: the shapes of tensors and results (spec): what is kept. -/
namespace Go.Abs
set_option linter.all false
set_option maxRecDepth 10000

theorem IS.keepB {H H' : AH} {s : Sl} {l : List Int} (h : IS H s l) (hb : l ≠ [] → H'[s.b]? = H[s.b]?) : IS H' s l := by
  by_cases hl : l = []
  · exact ⟨h.n, h.c, .inl hl⟩
  · refine ⟨h.n, h.c, h.rd.imp id fun ⟨cs, h1, h2⟩ => ⟨cs, ?_, h2⟩⟩
    unfold rdB at h1 ⊢
    rw [hb hl]; exact h1
/-- The state of the shapes: rows of labels and sizes, and which are gone. -/
structure LS (H0 H : AH) (bs : Nat) (sa sg : Sl) (xs : List Tri) (al : List (List Int)) (gn : List Bool) (dm : Int → Int) : Prop where
  le : Go.Abs.Le H0 H
  blk : H[bs]? = some ⟨[.sl sa, .sl sg], .rw, 2⟩
  lo : H0.length ≤ bs
  all : OOut H0.length H sa xs
  gone : CO 1 H0.length H sg (bcs gn)
  len : al.length = xs.length
  glen : gn.length = xs.length
  labs : ∀ (i : Nat) x l, xs[i]? = some x → al[i]? = some l → IS H x.1 l ∧ IS H x.2.1 (l.map dm)
theorem LS.ext {H0 H H' : AH} {bs : Nat} {sa sg : Sl} {xs : List Tri} {al : List (List Int)} {gn : List Bool} {dm : Int → Int} (h : LS H0 H bs sa sg xs al gn dm) (k : Go.Abs.Le H H') : LS H0 H' bs sa sg xs al gn dm :=
  ⟨h.le.trans k, by rw [k.get _ (List.getElem?_eq_some_iff.1 h.blk).1]; exact h.blk, h.lo, h.all.le k, h.gone.le k, h.len, h.glen, fun i x l hx hl => let ⟨a, b⟩ := h.labs i x l hx hl; ⟨a.le k, b.le k⟩⟩
theorem LS.rd {H0 H : AH} {bs : Nat} {sa sg : Sl} {xs : List Tri} {al : List (List Int)} {gn : List Bool} {dm : Int → Int} (h : LS H0 H bs sa sg xs al gn dm) : rdB H bs = some [.sl sa, .sl sg] := by unfold rdB; rw [h.blk]; rfl
/-- What the steps may keep, of tensor numbers from i on. -/
def keepL (a b : Int) : List (List Int) → List Bool → Nat → List Int
  | l :: al, g :: gn, i => (if !g && ((i : Int) != a && (i : Int) != b) then l else []) ++ keepL a b al gn (i + 1)
  | _, _, _ => []
theorem keepL_drop (a b : Int) {al : List (List Int)} {gn : List Bool} {i : Nat} (h1 : i < al.length) (h2 : i < gn.length) : keepL a b (al.drop i) (gn.drop i) i = (if !gn[i] && ((i : Int) != a && (i : Int) != b) then al[i] else []) ++ keepL a b (al.drop (i + 1)) (gn.drop (i + 1)) (i + 1) := by
  rw [List.drop_eq_getElem_cons h1, List.drop_eq_getElem_cons h2]
  rfl
theorem keepL_len (a b : Int) : ∀ (al : List (List Int)) (gn : List Bool) (i : Nat), (∀ l ∈ al, l.length ≤ 1000) → (keepL a b al gn i).length ≤ al.length * 1000
  | [], gn, i, _ => by simp [keepL]
  | l :: al, [], i, _ => by simp [keepL]
  | l :: al, g :: gn, i, h => by
    have ih := keepL_len a b al gn (i + 1) fun x hx => h x (List.mem_cons_of_mem _ hx)
    have hl := h l List.mem_cons_self
    simp only [keepL, List.length_append, List.length_cons]
    split
    · omega
    · simp; omega
end Go.Abs
/- Plans: what a step keeps (spec). -/
namespace Go.Abs
set_option linter.all false
set_option maxRecDepth 10000

theorem CO.bool {n0 : Nat} {H : AH} {s : Sl} {gn : List Bool} (h : CO 1 n0 H s (bcs gn)) {i : Nat} (hi : i < gn.length) : H[s.b]? = some ⟨bcs gn, .rw, 1⟩ ∧ s.o = 0 ∧ s.n = gn.length := by
  have hn : s.n = gn.length := by have := h.n; simpa [bcs] using this
  refine ⟨?_, h.o, hn⟩
  rcases h.blk with ⟨e, _⟩ | ⟨_, _, e⟩
  · have := congrArg List.length e
    simp [bcs] at this
    subst this
    simp at hi
  · exact e
theorem CO.ldb {n0 : Nat} {H : AH} {s : Sl} {gn : List Bool} (h : CO 1 n0 H s (bcs gn)) {i : Nat} (hi : i < gn.length) {α : Type} (k : Bool → Option α) : ((ixA s (i : Int) 1).bind fun o => (rdB H s.b).bind fun c => (boolAt c o).bind k) = k gn[i] := by
  obtain ⟨h1, h2, h3⟩ := h.bool hi
  rw [ixA_nat (by omega)]
  have hr : rdB H s.b = some (bcs gn) := by unfold rdB; rw [h1]; rfl
  simp only [Option.bind_some, hr, h2, Nat.zero_add, Nat.mul_one]
  have : boolAt (bcs gn) i = some gn[i] := by
    unfold boolAt
    simp [bcs, hi]
  rw [this]; rfl
theorem OOut.ld {n0 : Nat} {H : AH} {s : Sl} {xs : List Tri} (h : OOut n0 H s xs) {i : Nat} (hi : i < xs.length) {α : Type} (k : Sl → Sl → Sl → Option α) :
    ((ixA s (i : Int) 3).bind fun o => (rdB H s.b).bind fun q => (slAt q o).bind fun x => (slAt q (o + 1)).bind fun y => (slAt q (o + 1 + 1)).bind fun z => k x y z) = k xs[i].1 xs[i].2.1 xs[i].2.2 := by
  obtain ⟨cs, h1, h2, h3, h4, h5⟩ := h.outer.rd (List.getElem?_eq_getElem hi)
  rw [h2]
  simp only [Option.bind_some, h1, slAt_get h3, slAt_get h4]
  rw [show i * 3 + 1 + 1 = i * 3 + 2 from rfl, slAt_get h5]
  rfl
/-- spec.l17Keep: the tensors -/
theorem c_sl17Keep_0 {H0 H1 : AH} {bs : Nat} {sa sg : Sl} {xs : List Tri} {al : List (List Int)} {gn : List Bool} {dm : Int → Int} (hS : LS H0 H1 bs sa sg xs al gn dm) (hx : xs.length ≤ 1000) (hal : ∀ l ∈ al, l.length ≤ 1000) (a b : Int) :
    ∀ (k i : Nat) (H : AH) (u : Sl) (acc : List Int), i + k = xs.length → Fr H1 H [(u, acc)] → acc.length ≤ 100000 + i * 1000 →
      ∃ u' H', R (.loop F.sl17Keep 0) [.sc (.hp bs 0), isc a, isc b, ssc u, ssc sa, isc (xs.length : Int), isc (i : Int)] H = some ⟨2, [ssc u'], H'⟩ ∧ Fr H1 H' [(u', acc ++ keepL a b (al.drop i) (gn.drop i) i)]
  | 0, i, H, u, acc, hi, hF, ha => by
    obtain rfl : i = xs.length := by omega
    refine ⟨u, H, by rw [R_eq, e_sl17Keep_0, lt_self]; rfl, ?_⟩
    rw [← hS.len, List.drop_eq_nil_of_le (Nat.le_refl _)]
    simpa [keepL] using hF
  | k + 1, i, H, u, acc, hi, hF, ha => by
    have hlt : i < xs.length := by omega
    have hla : i < al.length := by rw [hS.len]; exact hlt
    have hlg : i < gn.length := by rw [hS.glen]; exact hlt
    have S1 := hS.ext hF.le
    obtain ⟨q1, q2⟩ := S1.labs i _ _ (List.getElem?_eq_getElem hlt) (List.getElem?_eq_getElem hla)
    have hli := hal _ (List.getElem_mem hla)
    have hsl : slAt [Sc.sl sa, Sc.sl sg] (0 + 1) = some sg := rfl
    rw [keepL_drop a b hla hlg]
    have hcond : (cond (!gn[i]) (cond ((i : Int) != a) (some (⟨0, [.sc (.bool ((i : Int) != b))], H⟩ : Out)) (some ⟨0, [.sc (.bool false)], H⟩)) (some ⟨0, [.sc (.bool false)], H⟩)) = some ⟨0, [bsc (!gn[i] && ((i : Int) != a && (i : Int) != b))], H⟩ := by
      cases gn[i] <;> cases (i : Int) != a <;> rfl
    have hstep : R (.loop F.sl17Keep 0) [.sc (.hp bs 0), isc a, isc b, ssc u, ssc sa, isc (xs.length : Int), isc (i : Int)] H = cond (!gn[i] && ((i : Int) != a && (i : Int) != b))
        ((rng H xs[i].1.b xs[i].1.o (xs[i].1.n * 1)).bind fun l21 => (appB H 1 8 u l21 xs[i].1.n).bind fun m22 => R (.loop F.sl17Keep 0) [.sc (.hp bs 0), isc a, isc b, ssc m22.1, ssc sa, isc (xs.length : Int), isc ((i + 1 : Nat) : Int)] m22.2)
        (R (.loop F.sl17Keep 0) [.sc (.hp bs 0), isc a, isc b, ssc u, ssc sa, isc (xs.length : Int), isc ((i + 1 : Nat) : Int)] H) := by
      rw [R_eq, e_sl17Keep_0, lt_true hlt, w1 hlt (by omega), cond_true, S1.all.ld hlt, S1.rd]
      simp only [Option.bind_some, hsl]
      rw [S1.gone.ldb hlg, hcond]
      rfl
    rw [hstep]
    cases hc : (!gn[i] && ((i : Int) != a && (i : Int) != b)) with
    | false =>
      simp only [cond_false, Bool.false_eq_true, if_false, List.nil_append]
      exact c_sl17Keep_0 hS hx hal a b k (i + 1) H u acc (by omega) hF (by omega)
    | true =>
      simp only [cond_true, if_true]
      obtain ⟨u1, H2, e2, F2, l2⟩ := Fr.app [] (ys := []) (s := u) (l := acc) (m := al[i]) hF (by omega)
      obtain ⟨u2, H3, e3, F3⟩ := c_sl17Keep_0 hS hx hal a b k (i + 1) H2 u1 (acc ++ al[i]) (by omega) F2 (by simp; omega)
      refine ⟨u2, H3, ?_, ?_⟩
      · rw [q1.rng]
        simp only [Option.bind_some]
        rw [q1.n, e2]
        exact e3
      · rw [List.append_assoc] at F3; exact F3
/-- spec.l17Keep -/
theorem c_sl17Keep {H0 H : AH} {bs : Nat} {sa sg su : Sl} {xs : List Tri} {al : List (List Int)} {gn : List Bool} {op : List Int} {dm : Int → Int} (hS : LS H0 H bs sa sg xs al gn dm) (hx : xs.length ≤ 1000) (hal : ∀ l ∈ al, l.length ≤ 1000) (ho : IS H su op) (hol : op.length ≤ 1000) (a b : Int) :
    ∃ u H', R (.fn F.sl17Keep) [.sc (.hp bs 0), ssc su, isc a, isc b] H = some ⟨1, [ssc u], H'⟩ ∧ Go.Abs.Le H H' ∧ IS H' u (op ++ keepL a b al gn 0) := by
  obtain ⟨s1, H1, e1, l1, o1⟩ := c_sl05Ints ho (by omega)
  have S1 := hS.ext l1
  have F1 : Fr H H1 [(s1, op)] := (Fr.start H).new l1 o1
  have F1' : Fr H1 H1 [] := Fr.start H1
  have loop := c_sl17Keep_0 (H1 := H) hS hx hal a b xs.length 0 H1 s1 op (by omega) F1 (by omega)
  obtain ⟨u, H2, e2, F2⟩ := loop
  rw [List.drop_zero, List.drop_zero] at F2
  refine ⟨u, H2, ?_, F2.le, F2.is (by simp)⟩
  have e2 : R (.loop F.sl17Keep 0) [.sc (.hp bs 0), isc a, isc b, ssc s1, ssc sa, isc (xs.length : Int), isc 0] H1 = _ := e2
  have hsl : slAt [Sc.sl sa, Sc.sl sg] (0 + 0) = some sa := rfl
  rw [R_eq, e_sl17Keep, e1]
  simp only [Option.bind_some, one_sl]
  rw [S1.rd]
  simp only [Option.bind_some, hsl]
  rw [S1.all.n, e2]
  rfl
end Go.Abs
/- Plans: a step (spec). -/
namespace Go.Abs
set_option linter.all false
set_option maxRecDepth 10000

theorem is_ne {H : AH} {s : Sl} {l : List Int} (h : IS H s l) (hl : l ≠ []) {b z : Nat} {cs : List Sc} (hb : H[b]? = some ⟨cs, .rw, z⟩) (hc : ∀ c ∈ cs, ∀ k i, c ≠ .int k i) : s.b ≠ b := fun e => by
  rcases h.rd with h1 | ⟨cs', h1, h2⟩
  · exact hl h1
  · have hr : rdB H s.b = some cs := by unfold rdB; rw [e, hb]; rfl
    rw [hr] at h1
    cases h1
    have hp : 0 < l.length := List.length_pos_iff.2 hl
    have := h2 0 _ (List.getElem?_eq_getElem hp)
    exact hc _ (List.mem_of_getElem? this) _ _ rfl
theorem triC_noint : ∀ (xs : List Tri), ∀ c ∈ triC xs, ∀ k i, c ≠ .int k i
  | [], c, hc, _, _ => by simp [triC] at hc
  | x :: xs, c, hc, k, i => by
    simp only [triC] at hc
    rcases List.mem_cons.1 hc with rfl | hc
    · intro e; cases e
    rcases List.mem_cons.1 hc with rfl | hc
    · intro e; cases e
    rcases List.mem_cons.1 hc with rfl | hc
    · intro e; cases e
    exact triC_noint xs c hc k i
theorem bcs_noint (gn : List Bool) : ∀ c ∈ bcs gn, ∀ k i, c ≠ .int k i := fun c hc k i e => by
  subst e
  simp [bcs] at hc
theorem two_noint (a b : Sl) : ∀ c ∈ [Sc.sl a, Sc.sl b], ∀ k i, c ≠ .int k i := fun c hc k i e => by
  subst e; simp at hc
theorem c_sl05Product_g {H : AH} {s : Sl} {l : List Int} (h : IS H s l) (hm : l.length ≤ 1048576) (hd : ∀ d ∈ l, 1 ≤ d ∧ d ≤ 8) : R (.fn F.sl05Product) [ssc s, isc 1000000000] H = some ⟨1, [isc (min (prd l) 1000000001)], H⟩ := by
  rw [R_eq, e_sl05Product, h.1]
  have := loopS (F := fun (a : Int) (i : Nat) => R (.loop F.sl05Product 0) [isc 1000000000, isc a, ssc s, isc (l.length : Int), isc (i : Int)] H) (l := l) (fun a _ => 0 ≤ a ∧ a ≤ 1000000001) (fun a l _ => some ⟨2, [isc (prodC 1000000000 a l)], H⟩)
    (fun a _ => by rw [R_eq, e_sl05Product_0, lt_self]; rfl) (fun a i hi r ha ih => by
      rw [R_eq, e_sl05Product_0, h.ldk hi, lt_true hi, w1 hi (by omega)]
      have hdi := hd l[i] (List.getElem_mem hi)
      have h1 : 0 ≤ a * l[i] := Int.mul_nonneg ha.1 (by omega)
      have h2 : a * l[i] ≤ 1000000001 * 8 := Int.mul_le_mul ha.2 hdi.2 (by omega) (by omega)
      have e1 : IntKind.wrap .i64 (a * l[i]) = a * l[i] := by rw [wrap_id] <;> omega
      have e2 : IntKind.wrap .i64 ((1000000000 : Int) + 1) = 1000000001 := by rw [wrap_id] <;> omega
      simp only [cond_true, e1, e2, prodC]
      exact ih _ (by split <;> omega)) 1 (by omega)
  have e := prodC_min 1000000000 l 1 (by omega) (by omega) fun d hx => (hd d hx).1
  rw [Int.one_mul] at e
  rw [show ((0 : Int)) = ((0 : Nat) : Int) from rfl, this, e]
  rfl
theorem t_ssb {α : Type} (a b : Sl) (q : Bool) (K : Sl → Sl → Bool → Option α) : ((lenP [ssc a, ssc b, bsc q] 3).bind fun _ => (nthP [ssc a, ssc b, bsc q] 0).bind fun p16 => p16.sc?.bind fun c17 => (slAt [c17] 0).bind fun s18 => (nthP [ssc a, ssc b, bsc q] 1).bind fun p19 => p19.sc?.bind fun c20 => (slAt [c20] 0).bind fun s21 => (nthP [ssc a, ssc b, bsc q] 2).bind fun p22 => p22.sc?.bind fun c23 => (boolAt [c23] 0).bind fun b24 => K s18 s21 b24) = K a b q := rfl
/-- spec.l17Step -/
theorem c_sl17Step {H0 H : AH} {bs : Nat} {sa sg su : Sl} {xs : List Tri} {al : List (List Int)} {gn : List Bool} {op : List Int} {dm : Int → Int} (hS : LS H0 H bs sa sg xs al gn dm) (hx : xs.length ≤ 500) (hal : ∀ l ∈ al, l.length ≤ 1000 ∧ l.Nodup ∧ LabsOk dm l) (ho : IS H su op) (hou : IS H0 su op) (hol : op.length ≤ 1000) {i j : Nat} (hi : i < al.length) (hj : j < al.length) :
    ∃ sa' sg' x' H', R (.fn F.sl17Step) [.sc (.hp bs 0), ssc su, .agg [.int .i64 (i : Int), .int .i64 (j : Int)]] H = some ⟨1, [isc (costL dm (joinL al[i] al[j]))], H'⟩ ∧
      LS H0 H' bs sa' sg' (xs ++ [x']) (al ++ [(joinL al[i] al[j]).filter fun x => (op ++ keepL i j al gn 0).any fun y => x == y]) (((gn.set i true).set j true) ++ [false]) dm ∧ H.length ≤ H'.length ∧ (∀ d, d < H.length → d ≠ bs → d ≠ sa.b → d ≠ sg.b → H'[d]? = H[d]?) ∧ (((joinL al[i] al[j]).filter fun x => (op ++ keepL i j al gn 0).any fun y => x == y) ≠ [] → H.length ≤ x'.1.b ∧ H.length ≤ x'.2.1.b) := by
  have hix : i < xs.length := by rw [← hS.len]; exact hi
  have hjx : j < xs.length := by rw [← hS.len]; exact hj
  have hig : i < gn.length := by rw [hS.glen]; exact hix
  have hjg : j < gn.length := by rw [hS.glen]; exact hjx
  have hxne : xs ≠ [] := fun e => by rw [e] at hix; simp at hix
  obtain ⟨a1, a2⟩ := hS.labs i _ _ (List.getElem?_eq_getElem hix) (List.getElem?_eq_getElem hi)
  obtain ⟨b1, b2⟩ := hS.labs j _ _ (List.getElem?_eq_getElem hjx) (List.getElem?_eq_getElem hj)
  have hmi := hal _ (List.getElem_mem hi)
  have hmj := hal _ (List.getElem_mem hj)
  obtain ⟨s18, s21, H1, e1, l1, o1, o2⟩ := c_sl08Join (c := xs[i].2.2) (c' := xs[j].2.2) a1 a2 b1 b2 hmj.2.1 (by omega)
  have hjl := joinL_len al[i] al[j]
  obtain ⟨s28, H2, e2, l2, o3⟩ := c_sl17Keep (hS.ext l1) (by omega) (fun l hl => (hal l hl).1) (ho.le l1) hol (i : Int) (j : Int)
  have hkl := keepL_len (i : Int) (j : Int) al gn 0 (fun l hl => (hal l hl).1)
  obtain ⟨v1, v2, H3, e3, F3⟩ := c_sl08Keep (o1.le l2) (o2.le l2) o3 (by omega) (by rw [List.length_append]; have := hS.len; omega)
  have l3 := F3.le
  have S3 := ((hS.ext l1).ext l2).ext l3
  have l13 := (l1.trans l2).trans l3
  have hlen13 := l13.len
  have hbs3 : bs < H3.length := (List.getElem?_eq_some_iff.1 S3.blk).1
  obtain ⟨hgb, hgo, hgn⟩ := S3.gone.bool hig
  have hsab : H3[sa.b]? = some ⟨triC xs, .rw, 3⟩ ∧ H0.length ≤ sa.b := by
    rcases S3.all.blk with ⟨e, _⟩ | ⟨_, h1, h2⟩
    · exact absurd e hxne
    · exact ⟨h2, h1⟩
  have hsgb : H0.length ≤ sg.b := by
    rcases S3.gone.blk with ⟨e, _⟩ | ⟨_, h1, _⟩
    · have := congrArg List.length e
      simp [bcs] at this
      subst this; simp at hig
    · exact h1
  have n1 : sg.b ≠ bs := fun e => by rw [e, S3.blk] at hgb; simp at hgb
  have n2 : sa.b ≠ bs := fun e => by have h := hsab.1; rw [e, S3.blk] at h; simp at h
  have n3 : sa.b ≠ sg.b := fun e => by have h := hsab.1; rw [e, hgb] at h; simp at h
  have hsg3 : sg.b < H3.length := (List.getElem?_eq_some_iff.1 hgb).1
  have hsa3 : sa.b < H3.length := (List.getElem?_eq_some_iff.1 hsab.1).1
  -- the two are gone
  have hgl : gn.length ≤ 500 := by rw [hS.glen]; exact hx
  have p1 : putR H3 sg.b (sg.o + i * 1) [.bool true] = some (H3.set sg.b ⟨bcs (gn.set i true), .rw, 1⟩) := by
    rw [hgo, Nat.zero_add, Nat.mul_one, put_cell hgb (by simpa [bcs] using hig)]
    congr 3
    simp [bcs, List.map_set]
  have p2 : putR (H3.set sg.b ⟨bcs (gn.set i true), .rw, 1⟩) sg.b (sg.o + j * 1) [.bool true] = some (H3.set sg.b ⟨bcs ((gn.set i true).set j true), .rw, 1⟩) := by
    rw [hgo, Nat.zero_add, Nat.mul_one, put_cell (set_get hgb) (by simpa [bcs] using hjg), set_set]
    congr 3
    simp [bcs, List.map_set]
  generalize hgn2 : (gn.set i true).set j true = gn2 at *
  have hgn2l : gn2.length = gn.length := by rw [← hgn2]; simp
  generalize hH5 : H3.set sg.b ⟨bcs gn2, .rw, 1⟩ = H5 at *
  have l5 : H5.length = H3.length := by rw [← hH5]; simp
  have f5 : ∀ d, d ≠ sg.b → H5[d]? = H3[d]? := fun d hd => by rw [← hH5]; exact List.getElem?_set_ne (Ne.symm hd)
  have g5 : H5[sg.b]? = some ⟨bcs gn2, .rw, 1⟩ := by rw [← hH5]; exact set_get hgb
  have le05 : Go.Abs.Le H0 H5 := ⟨by rw [l5]; exact S3.le.len, fun d hd => by rw [f5 d (by omega)]; exact S3.le.get d hd⟩
  have all5 : OOut H0.length H5 sa xs := S3.all.keep fun _ => f5 _ n3
  -- the row of all
  have le6 := Go.Abs.Le.app H5 [⟨[.sl v1, .sl v2, .sl ⟨0, 0, 0, 0, true⟩], .rw, 3⟩]
  obtain ⟨sa', H6, e6, _, O6, l6, f6⟩ := outer_push (rs := []) (Fr.of (le05.trans le6)) (all5.le le6) (by omega) v1 v2 ⟨0, 0, 0, 0, true⟩
  simp only [List.length_append, List.length_cons, List.length_nil] at l6 f6
  have k6 : ∀ d, d < H5.length → d ≠ sa.b → H6[d]? = H5[d]? := fun d hd hne => by rw [f6 d (by omega) (.inl hne), le6.get d hd]
  have b6 : H6[bs]? = some ⟨[.sl sa, .sl sg], .rw, 2⟩ := by rw [k6 bs (by omega) (Ne.symm n2), f5 bs (Ne.symm n1)]; exact S3.blk
  have p7 : putR H6 bs (0 + 0) [.sl sa'] = some (H6.set bs ⟨[.sl sa', .sl sg], .rw, 2⟩) := by rw [put_cell b6 (by simp)]; rfl
  generalize hH7 : H6.set bs ⟨[.sl sa', .sl sg], .rw, 2⟩ = H7 at *
  have l7 : H7.length = H6.length := by rw [← hH7]; simp
  have f7 : ∀ d, d ≠ bs → H7[d]? = H6[d]? := fun d hd => by rw [← hH7]; exact List.getElem?_set_ne (Ne.symm hd)
  have b7 : H7[bs]? = some ⟨[.sl sa', .sl sg], .rw, 2⟩ := by rw [← hH7]; exact set_get b6
  have g7 : H7[sg.b]? = some ⟨bcs gn2, .rw, 1⟩ := by rw [f7 _ n1, k6 _ (by omega) (Ne.symm n3)]; exact g5
  have hgne : bcs gn2 ≠ [] := fun e => by
    have := congrArg List.length e
    simp [bcs, hgn2l] at this
    subst this; simp at hig
  have gone7 : CO 1 H0.length H7 sg (bcs gn2) := ⟨S3.gone.o, by rw [hgn]; simp [bcs, hgn2l], S3.gone.c, .inr ⟨hgne, hsgb, g7⟩⟩
  -- the row of what is gone
  have le8 := Go.Abs.Le.app H7 [⟨[.bool false], .rw, 1⟩]
  obtain ⟨sg', H8, e8, O8, n8, l8, f8⟩ := (gone7.le le8).push (by_ := 1) (new := [.bool false]) (by have := le05.len; simp; omega) (by omega) (by omega) rfl (by rw [hgn]; unfold most; omega)
  simp only [List.length_append, List.length_cons, List.length_nil] at l8 f8
  have k8 : ∀ d, d < H7.length → d ≠ sg.b → H8[d]? = H7[d]? := fun d hd hne => by rw [f8 d (by omega) (.inl hne), le8.get d hd]
  have b8 : H8[bs]? = some ⟨[.sl sa', .sl sg], .rw, 2⟩ := by rw [k8 bs (by omega) (Ne.symm n1)]; exact b7
  have p9 : putR H8 bs (0 + 1) [.sl sg'] = some (H8.set bs ⟨[.sl sa', .sl sg'], .rw, 2⟩) := by rw [put_cell b8 (by simp)]; rfl
  generalize hH9 : H8.set bs ⟨[.sl sa', .sl sg'], .rw, 2⟩ = H9 at *
  have l9 : H9.length = H8.length := by rw [← hH9]; simp
  have f9 : ∀ d, d ≠ bs → H9[d]? = H8[d]? := fun d hd => by rw [← hH9]; exact List.getElem?_set_ne (Ne.symm hd)
  have b9 : H9[bs]? = some ⟨[.sl sa', .sl sg'], .rw, 2⟩ := by rw [← hH9]; exact set_get b8
  have stay : ∀ d, d < H3.length → d ≠ bs → d ≠ sa.b → d ≠ sg.b → H9[d]? = H3[d]? := fun d hd h1 h2 h3 => by
    rw [f9 d h1, k8 d (by omega) h3, f7 d h1, k6 d (by omega) h2, f5 d h3]
  have isStay : ∀ {s : Sl} {l : List Int}, IS H3 s l → IS H9 s l := fun h => h.keepB fun hl => stay _ (h.lt hl) (is_ne h hl S3.blk (two_noint _ _)) (is_ne h hl hsab.1 (triC_noint _)) (is_ne h hl hgb (bcs_noint _))
  have hprod : R (.fn F.sl05Product) [ssc s21, isc 1000000000] H9 = some ⟨1, [isc (min (prd ((joinL al[i] al[j]).map dm)) 1000000001)], H9⟩ :=
    c_sl05Product_g (isStay (((o2.le l2).le l3))) (by simp; omega) fun d hd => by
      obtain ⟨x, hx', rfl⟩ := List.mem_map.1 hd
      have := (LabsOk.join hmi.2.2 hmj.2.2) x hx'
      omega
  refine ⟨sa', sg', (v1, v2, ⟨0, 0, 0, 0, true⟩), H9, ?_, ⟨?_, b9, hS.lo, ?_, ?_, ?_, ?_, ?_⟩, by omega, fun d hd h1 h2 h3 => by rw [stay d (by omega) h1 h2 h3, l13.get d hd], fun hne => ?_⟩
  · have hs0 : ∀ a b : Sl, slAt [Sc.sl a, Sc.sl b] (0 + 0) = some a := fun a b => rfl
    have hs1 : ∀ a b : Sl, slAt [Sc.sl a, Sc.sl b] (0 + 1) = some b := fun a b => rfl
    have r4 : rdB (H3.set sg.b ⟨bcs (gn.set i true), .rw, 1⟩) bs = some [.sl sa, .sl sg] := by
      unfold rdB; rw [List.getElem?_set_ne n1, S3.blk]; rfl
    have r5 : rdB ((H5 ++ [resB]).set (H5.length + 0) deadB) bs = some [.sl sa, .sl sg] := by
      unfold rdB
      rw [List.getElem?_set_ne (by omega), List.getElem?_append_left (by omega), f5 bs (Ne.symm n1), S3.blk]; rfl
    have hnb : newAt (H5 ++ [resB]) (H5.length + 0) 3 [.sl v1, .sl v2, .sl ⟨0, 0, 0, 0, true⟩] = some (H5.length, H5 ++ [⟨[.sl v1, .sl v2, .sl ⟨0, 0, 0, 0, true⟩], .rw, 3⟩]) := by
      rw [Nat.add_zero, newAt_ok (by simp) (by omega)]
      simp
    have r7 : rdB H7 bs = some [.sl sa', .sl sg] := by unfold rdB; rw [b7]; rfl
    have hnb2 : newB H7 1 [.bool false] = some (H7.length, H7 ++ [⟨[.bool false], .rw, 1⟩]) := rfl
    have hif : (if min (prd ((joinL al[i] al[j]).map dm)) 1000000001 < (1000000000 : Int) then min (prd ((joinL al[i] al[j]).map dm)) 1000000001 else 1000000000) = costL dm (joinL al[i] al[j]) := by
      unfold costL; split <;> omega
    rw [R_eq, e_sl17Step, hS.rd]
    simp only [Option.bind_some, hs0]
    rw [hS.all.ld hix]
    rw [hS.all.ld hjx, e1]
    simp only [Option.bind_some]
    rw [t_ssb, e2]
    simp only [Option.bind_some, one_sl]
    rw [e3]
    simp only [Option.bind_some, o_sss]
    rw [S3.rd]
    simp only [Option.bind_some, hs1]
    rw [ixA_nat (by omega)]
    simp only [Option.bind_some]
    rw [p1]
    simp only [Option.bind_some]
    rw [r4]
    simp only [Option.bind_some, hs1]
    rw [ixA_nat (by omega)]
    simp only [Option.bind_some]
    rw [p2]
    simp only [Option.bind_some]
    rw [reserve1, r5]
    simp only [Option.bind_some, hs0]
    rw [hnb]
    simp only [Option.bind_some]
    rw [rng_new (cs := [.sl v1, .sl v2, .sl ⟨0, 0, 0, 0, true⟩]) (z := 3) (m := 1 * 3) (by simp) rfl (by omega)]
    simp only [Option.bind_some]
    rw [e6]
    simp only [Option.bind_some]
    rw [p7]
    simp only [Option.bind_some]
    rw [r7]
    simp only [Option.bind_some, hs1]
    rw [hnb2]
    simp only [Option.bind_some]
    rw [rng_new (cs := [.bool false]) (z := 1) (m := 1 * 1) (by simp) rfl (by omega)]
    simp only [Option.bind_some]
    rw [e8]
    simp only [Option.bind_some]
    rw [p9]
    simp only [Option.bind_some]
    rw [hprod]
    simp only [Option.bind_some, one_int]
    rw [hif]
  · exact ⟨by have := le05.len; omega, fun d hd => by rw [stay d (by have := S3.le.len; omega) (by have := hS.lo; omega) (by have := hsab.2; omega) (by omega)]; exact S3.le.get d hd⟩
  · refine O6.keep fun hne => ?_
    rcases O6.blk with ⟨e, _⟩ | ⟨_, _, hb⟩
    · exact absurd e hne
    · have q1 : sa'.b ≠ bs := fun e => by rw [e, b6] at hb; simp at hb
      have q2 : sa'.b ≠ sg.b := fun e => by
        rw [e, k6 _ (by omega) (Ne.symm n3), g5] at hb
        simp at hb
      have q3 : sa'.b < H6.length := (List.getElem?_eq_some_iff.1 hb).1
      rw [f9 _ q1, k8 _ (by omega) q2, f7 _ q1]
  · have hbc : bcs (gn2 ++ [false]) = bcs gn2 ++ [.bool false] := by simp [bcs]
    rw [hbc]
    refine O8.keep fun hne => ?_
    rcases O8.blk with ⟨e, _⟩ | ⟨_, _, hb⟩
    · exact absurd e hne
    · exact f9 _ fun e => by rw [e, b8] at hb; simp at hb
  · simp [hS.len]
  · simp [hgn2l, hS.glen]
  · intro m x l hx' hl'
    rcases Nat.lt_or_ge m xs.length with hm | hm
    · rw [List.getElem?_append_left hm] at hx'
      rw [List.getElem?_append_left (by rw [hS.len]; exact hm)] at hl'
      obtain ⟨c1, c2⟩ := S3.labs m x l hx' hl'
      exact ⟨isStay c1, isStay c2⟩
    · have hm1 : m < xs.length + 1 := by have := (List.getElem?_eq_some_iff.1 hx').1; simpa using this
      obtain rfl : m = xs.length := by omega
      rw [List.getElem?_append_right (Nat.le_refl _), Nat.sub_self] at hx'
      rw [List.getElem?_append_right (by rw [hS.len]; exact Nat.le_refl _), hS.len, Nat.sub_self] at hl'
      simp at hx' hl'
      subst hx' hl'
      exact ⟨isStay (F3.is (by simp)), isStay (F3.is (by simp))⟩
  · have hl12 := (l1.trans l2).len
    have c1 := (F3.own (s := v1) (l := (joinL al[i] al[j]).filter fun x => (op ++ keepL i j al gn 0).any fun y => x == y) (by simp)).lo
    have c2 := (F3.own (s := v2) (l := ((joinL al[i] al[j]).filter fun x => (op ++ keepL i j al gn 0).any fun y => x == y).map dm) (by simp)).lo
    refine ⟨?_, ?_⟩
    · rcases c1 with h | h
      · exact absurd h hne
      · show H.length ≤ v1.b; omega
    · rcases c2 with h | h
      · exact absurd (List.map_eq_nil_iff.1 h) hne
      · show H.length ≤ v2.b; omega
end Go.Abs
/- Pure: the reference's shapes, told as numbers that are not gone. -/
namespace Go.Abs
set_option linter.all false

def wof : List (List Int) → List Bool → Nat → List (Int × List Int)
  | l :: al, g :: gn, i => if g then wof al gn (i + 1) else ((i : Int), l) :: wof al gn (i + 1)
  | _, _, _ => []
theorem wof_app : ∀ {al : List (List Int)} {gn : List Bool} (r : List Int) (k : Nat), al.length = gn.length → wof (al ++ [r]) (gn ++ [false]) k = wof al gn k ++ [(((k + al.length : Nat) : Int), r)]
  | [], [], r, k, _ => by simp [wof]
  | l :: al, g :: gn, r, k, h => by
    simp only [List.cons_append, wof, List.length_cons]
    rw [wof_app r (k + 1) (by simpa using h)]
    have : k + 1 + al.length = k + (al.length + 1) := by omega
    rw [this]
    split <;> simp
  | [], _ :: _, _, _, h => by simp at h
  | _ :: _, [], _, _, h => by simp at h
theorem wof_lab : ∀ {al : List (List Int)} {gn : List Bool} (k i : Nat) (hk : k ≤ i) (h1 : i - k < al.length) (h2 : i - k < gn.length), gn[i - k] = false → labW (wof al gn k) (i : Int) = al[i - k]
  | [], gn, k, i, _, h1, _, _ => by simp at h1
  | l :: al, [], k, i, _, _, h2, _ => by simp at h2
  | l :: al, g :: gn, k, i, hk, h1, h2, hg => by
    by_cases e : k = i
    · subst e
      simp only [Nat.sub_self, List.getElem_cons_zero] at hg ⊢
      simp [wof, hg, labW]
    · have hs : i - k = (i - (k + 1)) + 1 := by omega
      have hg' : gn[i - (k + 1)]'(by simp at h2; omega) = false := by
        have : (g :: gn)[i - k] = gn[i - (k + 1)]'(by simp at h2; omega) := by
          rw [List.getElem_cons, dif_neg (by omega)]
          congr 1
        rw [← this]; exact hg
      have ih := wof_lab (al := al) (gn := gn) (k + 1) i (by omega) (by simp at h1; omega) (by simp at h2; omega) hg'
      have hr : (l :: al)[i - k] = al[i - (k + 1)]'(by simp at h1; omega) := by
        rw [List.getElem_cons, dif_neg (by omega)]
        congr 1
      rw [hr, ← ih]
      have hw : wof (l :: al) (g :: gn) k = if g then wof al gn (k + 1) else ((k : Int), l) :: wof al gn (k + 1) := rfl
      rw [hw]
      have hne : ((k : Int) == (i : Int)) = false := by simp; omega
      split
      · rfl
      · unfold labW
        simp only [List.find?_cons, hne]
theorem wof_drop : ∀ {al : List (List Int)} {gn : List Bool} (k i j : Nat), dropW (i : Int) (j : Int) (wof al gn k) = wof al (((gn.zipIdx k).map fun x => x.1 || x.2 == i || x.2 == j)) k
  | [], gn, k, i, j => by cases gn <;> simp [wof, dropW]
  | l :: al, [], k, i, j => by simp [wof, dropW]
  | l :: al, g :: gn, k, i, j => by
    have ih := wof_drop (al := al) (gn := gn) (k + 1) i j
    simp only [wof, List.zipIdx_cons, List.map_cons]
    have h1 : ((k : Int) != (i : Int)) = (k != i) := bne_nat k i
    have h2 : ((k : Int) != (j : Int)) = (k != j) := bne_nat k j
    unfold dropW at ih ⊢
    cases g with
    | true => simp only [if_true, Bool.true_or]; exact ih
    | false =>
      simp only [Bool.false_eq_true, if_false, Bool.false_or, List.filter_cons, h1, h2]
      by_cases e1 : k = i
      · subst e1
        simp only [bne_self_eq_false, Bool.false_and, Bool.false_eq_true, if_false, beq_self_eq_true, Bool.true_or, if_true]
        exact ih
      · by_cases e2 : k = j
        · subst e2
          simp only [bne_self_eq_false, Bool.and_false, Bool.false_eq_true, if_false, beq_self_eq_true, Bool.or_true, if_true]
          exact ih
        · have a1 : (k != i) = true := bne_iff_ne.2 e1
          have a2 : (k != j) = true := bne_iff_ne.2 e2
          have a3 : (k == i) = false := by simpa using e1
          have a4 : (k == j) = false := by simpa using e2
          simp only [a1, a2, a3, a4, Bool.and_self, Bool.or_self, if_true, Bool.false_eq_true, if_false]
          rw [ih]
theorem gone_set {gn : List Bool} {i j : Nat} (hi : i < gn.length) (hj : j < gn.length) : ((gn.zipIdx 0).map fun x => x.1 || x.2 == i || x.2 == j) = (gn.set i true).set j true := by
  refine List.ext_getElem (by simp) fun m h1 h2 => ?_
  simp only [List.getElem_map, List.getElem_zipIdx, List.getElem_set]
  by_cases e1 : j = m
  · subst e1; simp
  · by_cases e2 : i = m
    · subst e2; simp [e1]
    · have a1 : (m == i) = false := by simp; omega
      have a2 : (m == j) = false := by simp; omega
      simp [e1, e2, a1, a2]
theorem keepL_any (x : Int) (i j : Nat) : ∀ (al : List (List Int)) (gn : List Bool) (k : Nat), (keepL (i : Int) (j : Int) al gn k).any (fun y => x == y) = (dropW (i : Int) (j : Int) (wof al gn k)).any fun t => t.2.any fun y => x == y
  | [], gn, k => by cases gn <;> simp [keepL, wof, dropW]
  | l :: al, [], k => by simp [keepL, wof, dropW]
  | l :: al, g :: gn, k => by
    have ih := keepL_any x i j al gn (k + 1)
    simp only [keepL, wof, List.any_append, ih]
    cases g with
    | true => simp
    | false =>
      unfold dropW
      simp only [Bool.not_false, Bool.true_and, Bool.false_eq_true, if_false, List.filter_cons]
      cases hc : ((k : Int) != (i : Int) && (k : Int) != (j : Int)) <;> simp
theorem wof_step {al : List (List Int)} {gn : List Bool} {op : List Int} {i j : Nat} {p : Sp} (hl : al.length = gn.length) (hi : i < al.length) (hj : j < al.length) (hgi : gn[i]'(by omega) = false) (hgj : gn[j]'(by omega) = false) (hpa : p.a = (i : Int)) (hpb : p.b = (j : Int)) :
    stepW op (wof al gn 0) (al.length : Int) p = wof (al ++ [(joinL al[i] al[j]).filter fun x => (op ++ keepL i j al gn 0).any fun y => x == y]) (((gn.set i true).set j true) ++ [false]) 0 ∧
      joinL (labW (wof al gn 0) p.a) (labW (wof al gn 0) p.b) = joinL al[i] al[j] ∧ resW op (wof al gn 0) p.a p.b = (joinL al[i] al[j]).filter fun x => (op ++ keepL i j al gn 0).any fun y => x == y := by
  have la := wof_lab (al := al) (gn := gn) 0 i (by omega) (by simpa using hi) (by simp; omega) (by simpa using hgi)
  have lb := wof_lab (al := al) (gn := gn) 0 j (by omega) (by simpa using hj) (by simp; omega) (by simpa using hgj)
  simp only [Nat.sub_zero] at la lb
  have hres : resW op (wof al gn 0) p.a p.b = (joinL al[i] al[j]).filter fun x => (op ++ keepL i j al gn 0).any fun y => x == y := by
    unfold resW
    rw [hpa, hpb, la, lb]
    congr 1
    funext x
    unfold keptW
    rw [List.any_append, keepL_any]
  refine ⟨?_, by rw [hpa, hpb, la, lb], hres⟩
  unfold stepW
  rw [hres, hpa, hpb, wof_drop, gone_set (by omega) (by omega), wof_app _ 0 (by simp; omega)]
  simp
end Go.Abs
/- Plans: the steps (spec). -/
namespace Go.Abs
set_option linter.all false
set_option maxRecDepth 10000

theorem LS.keep {H0 H H' : AH} {bs : Nat} {sa sg : Sl} {xs : List Tri} {al : List (List Int)} {gn : List Bool} {dm : Int → Int} (h : LS H0 H bs sa sg xs al gn dm) (hl : Go.Abs.Le H0 H') (hb : H'[bs]? = H[bs]?) (ha : xs ≠ [] → H'[sa.b]? = H[sa.b]?) (hg : gn ≠ [] → H'[sg.b]? = H[sg.b]?)
    (hr : ∀ (i : Nat) x l, xs[i]? = some x → al[i]? = some l → l ≠ [] → H'[x.1.b]? = H[x.1.b]? ∧ H'[x.2.1.b]? = H[x.2.1.b]?) : LS H0 H' bs sa sg xs al gn dm :=
  ⟨hl, by rw [hb]; exact h.blk, h.lo, h.all.keep ha, h.gone.keep fun hne => hg fun e => hne (by rw [e]; rfl), h.len, h.glen, fun i x l hx hl' => by
    obtain ⟨c1, c2⟩ := h.labs i x l hx hl'
    exact ⟨c1.keepB fun hne => (hr i x l hx hl' hne).1, c2.keepB fun hne => (hr i x l hx hl' fun e => hne (by rw [e]; rfl)).2⟩⟩
theorem joinL_nodup {a b : List Int} (ha : a.Nodup) (hb : b.Nodup) : (joinL a b).Nodup := by
  have key : ∀ (b : List Int) (k : Nat), colF (fun _ x => if (a.any fun y => x == y) then none else some x) b k = b.filter fun x => !(a.any fun y => x == y) := by
    intro b
    induction b with
    | nil => intro k; rfl
    | cons x b ih =>
      intro k
      simp only [colF, List.filter_cons, ih]
      cases a.any fun y => x == y <;> simp
  unfold joinL
  rw [key]
  refine List.nodup_append.2 ⟨ha, hb.filter _, fun x hx y hy e => ?_⟩
  subst e
  have := (List.mem_filter.1 hy).2
  simp at this
  exact this x hx rfl
theorem wof_mem : ∀ {al : List (List Int)} {gn : List Bool} (k : Nat) (x : Int), al.length = gn.length → x ∈ (wof al gn k).map (·.1) → ∃ i : Nat, x = (i : Int) ∧ k ≤ i ∧ ∃ h : i - k < gn.length, gn[i - k] = false
  | [], [], k, x, _, h => by simp [wof] at h
  | l :: al, g :: gn, k, x, hl, h => by
    have hw : wof (l :: al) (g :: gn) k = if g then wof al gn (k + 1) else ((k : Int), l) :: wof al gn (k + 1) := rfl
    rw [hw] at h
    have next : x ∈ (wof al gn (k + 1)).map (·.1) → ∃ i : Nat, x = (i : Int) ∧ k ≤ i ∧ ∃ h : i - k < (g :: gn).length, (g :: gn)[i - k] = false := fun h => by
      obtain ⟨i, e, h1, h2, h3⟩ := wof_mem (k + 1) x (by simpa using hl) h
      refine ⟨i, e, by omega, by simp; omega, ?_⟩
      rw [List.getElem_cons, dif_neg (by omega)]
      rw [← h3]
      congr 1
    by_cases hg : g = true
    · rw [if_pos hg] at h; exact next h
    · rw [if_neg hg, List.map_cons] at h
      rcases List.mem_cons.1 h with rfl | h
      · exact ⟨k, rfl, Nat.le_refl _, by simp, by simpa using hg⟩
      · exact next h
  | [], _ :: _, _, _, h, _ => by simp at h
  | _ :: _, [], _, _, h, _ => by simp at h
end Go.Abs
/- Plans: how many labels there can be. -/
namespace Go.Abs
set_option linter.all false
theorem nodup_len : ∀ (N : Nat) (l : List Int), l.Nodup → (∀ x ∈ l, 0 ≤ x ∧ x < (N : Int)) → l.length ≤ N
  | 0, l, _, h => by
    cases l with
    | nil => simp
    | cons x l => have := h x List.mem_cons_self; omega
  | N + 1, l, hd, h => by
    have ih := nodup_len N (l.erase (N : Int)) (hd.erase _) fun x hx => by
      have hx2 := (List.Nodup.mem_erase_iff hd).1 hx
      have := h x hx2.2
      have := hx2.1
      omega
    by_cases hm : (N : Int) ∈ l
    · rw [List.length_erase_of_mem hm] at ih; omega
    · rw [List.erase_of_not_mem hm] at ih; omega
theorem labs_len {dm : Int → Int} {l : List Int} (hd : l.Nodup) (h : LabsOk dm l) : l.length ≤ 100 := nodup_len 100 l hd fun x hx => by have := h x hx; omega
end Go.Abs
/- Plans: the steps, one after the other (spec). -/
namespace Go.Abs
set_option linter.all false
set_option maxRecDepth 10000

/-- The labels of the results. -/
def labsL (op : List Int) : List (Int × List Int) → Int → List Sp → List (List Int)
  | _, _, [] => []
  | W, nx, p :: ps => resW op W p.a p.b :: labsL op (stepW op W nx p) (nx + 1) ps
theorem sizes_labs (op : List Int) (dm : Int → Int) : ∀ (ps : List Sp) (W : List (Int × List Int)) (nx : Int), sizesW op dm W nx ps = (labsL op W nx ps).map (costL dm)
  | [], _, _ => rfl
  | p :: ps, W, nx => by simp only [sizesW, labsL, List.map_cons]; rw [sizes_labs op dm ps]
/-- spec.l17Run: the steps -/
theorem c_sl17Run_0 {H0 : AH} {bs : Nat} {sp su s : Sl} {r : Rg} {ps : List Sp} {op : List Int} {dm : Int → Int} (hp : S2 H0 sp ps) (hpl : ps.length ≤ 100) (hou : IS H0 su op) (hol : op.length ≤ 1000) :
    ∀ (k i : Nat) (H : AH) (sa sg u : Sl) (xs : List Tri) (al : List (List Int)) (gn : List Bool) (acc : List Int), i + k = ps.length → LS H0 H bs sa sg xs al gn dm → xs.length ≤ 200 + i → (∀ l ∈ al, l.Nodup ∧ LabsOk dm l) →
      orderN ((wof al gn 0).map (·.1)) (al.length : Int) (ps.drop i) = true → Own H0.length H u acc → acc.length ≤ i → (∀ (m : Nat) x l, xs[m]? = some x → al[m]? = some l → l ≠ [] → acc ≠ [] → x.1.b ≠ u.b ∧ x.2.1.b ≠ u.b) →
      ∃ sa' sg' u' xs' al' gn' H', R (.loop F.sl17Run 0) [.sc (.hp bs 0), ssc u, ssc sp, isc (ps.length : Int), isc (i : Int), npv r s su] H = some ⟨2, [ssc u'], H'⟩ ∧ LS H0 H' bs sa' sg' xs' al' gn' dm ∧ Own H0.length H' u' (acc ++ costsW op dm (wof al gn 0) al.length (ps.drop i)) ∧
        al' = al ++ labsL op (wof al gn 0) al.length (ps.drop i) ∧ (∀ l ∈ al', l.Nodup ∧ LabsOk dm l) ∧ xs'.length ≤ 200 + ps.length
  | 0, i, H, sa, sg, u, xs, al, gn, acc, hi, hS, hx, hal, hord, hu, hac, hdis => by
    obtain rfl : i = ps.length := by omega
    refine ⟨sa, sg, u, xs, al, gn, H, by rw [R_eq, e_sl17Run_0, lt_self]; rfl, hS, ?_, ?_, hal, hx⟩
    · rw [List.drop_eq_nil_of_le (Nat.le_refl _)]; simpa [costsW] using hu
    · rw [List.drop_eq_nil_of_le (Nat.le_refl _)]; simp [labsL]
  | k + 1, i, H, sa, sg, u, xs, al, gn, acc, hi, hS, hx, hal, hord, hu, hac, hdis => by
    have hlt : i < ps.length := by omega
    have hlg : al.length = gn.length := by rw [hS.len, hS.glen]
    rw [List.drop_eq_getElem_cons hlt] at hord ⊢
    unfold orderN at hord
    split at hord
    · rename_i hc
      obtain ⟨pa, ea, _, ha1, ha2⟩ := wof_mem 0 _ hlg hc.1
      obtain ⟨pb, eb, _, hb1, hb2⟩ := wof_mem 0 _ hlg hc.2.1
      simp only [Nat.sub_zero] at ha1 ha2 hb1 hb2
      have hal' : ∀ l ∈ al, l.length ≤ 1000 ∧ l.Nodup ∧ LabsOk dm l := fun l hl => ⟨by have := labs_len (hal l hl).1 (hal l hl).2; omega, hal l hl⟩
      obtain ⟨sa', sg', x', H1, e1, S1, l1, f1, g1⟩ := c_sl17Step hS (by omega) hal' (hou.le hS.le) hou hol (i := pa) (j := pb) (by omega) (by omega)
      obtain ⟨w1', w2, w3⟩ := wof_step (op := op) (p := ps[i]) hlg (by omega) (by omega) ha2 hb2 ea eb
      generalize hgn : (gn.set pa true).set pb true ++ [false] = gn' at *
      generalize hres : (joinL al[pa] al[pb]).filter (fun x => (op ++ keepL pa pb al gn 0).any fun y => x == y) = res at *
      have hbu : acc ≠ [] → u.b ≠ bs ∧ u.b ≠ sa.b ∧ u.b ≠ sg.b := fun hne => by
        have hxne : xs ≠ [] := fun e => by
          have h := hS.glen
          rw [e, List.length_nil] at h
          omega
        refine ⟨is_ne hu.is hne hS.blk (two_noint _ _), ?_, is_ne hu.is hne (hS.gone.bool ha1).1 (bcs_noint _)⟩
        rcases hS.all.blk with ⟨e, _⟩ | ⟨_, _, hb⟩
        · exact absurd e hxne
        · exact is_ne hu.is hne hb (triC_noint _)
      have hu1 : Own H0.length H1 u acc := hu.mono fun hne => f1 _ (hu.lt hne) (hbu hne).1 (hbu hne).2.1 (hbu hne).2.2
      obtain ⟨u', H2, e2, o2, l2, f2, g2⟩ := push_own S1.le.len hu1 (by omega) (costL dm (joinL al[pa] al[pb]))
      have dis : ∀ d, (acc ≠ [] → d ≠ u.b) → (d ≠ u.b ∨ acc = []) := fun d h => by
        by_cases e : acc = []
        · exact .inr e
        · exact .inl (h e)
      have S2 : LS H0 H2 bs sa' sg' (xs ++ [x']) (al ++ [res]) gn' dm := S1.keep
        ⟨Nat.le_trans S1.le.len l2, fun d hd => by
          rw [f2 d (by have := S1.le.len; omega) (dis d fun hne => by rcases hu1.lo with h | h
                                                                      · exact absurd h hne
                                                                      · omega)]
          exact S1.le.get d hd⟩
        (f2 _ (List.getElem?_eq_some_iff.1 S1.blk).1 (dis _ fun hne => (is_ne hu1.is hne S1.blk (two_noint _ _)).symm))
        (fun hne => by
          rcases S1.all.blk with ⟨e, _⟩ | ⟨_, _, hb⟩
          · exact absurd e hne
          · exact f2 _ (List.getElem?_eq_some_iff.1 hb).1 (dis _ fun hn2 => (is_ne hu1.is hn2 hb (triC_noint _)).symm))
        (fun hne => by
          have hb := (S1.gone.bool (i := 0) (List.length_pos_iff.2 hne)).1
          exact f2 _ (List.getElem?_eq_some_iff.1 hb).1 (dis _ fun hn2 => (is_ne hu1.is hn2 hb (bcs_noint _)).symm))
        (fun m x l hx1 hl1 hne => by
          obtain ⟨c1, c2⟩ := S1.labs m x l hx1 hl1
          have hne2 : l.map dm ≠ [] := fun e => hne (List.map_eq_nil_iff.1 e)
          have hd : acc ≠ [] → x.1.b ≠ u.b ∧ x.2.1.b ≠ u.b := fun hn2 => by
            rcases Nat.lt_or_ge m xs.length with hm | hm
            · rw [List.getElem?_append_left hm] at hx1
              rw [List.getElem?_append_left (by rw [hS.len]; exact hm)] at hl1
              exact hdis m x l hx1 hl1 hne hn2
            · have hm1 : m < xs.length + 1 := by have := (List.getElem?_eq_some_iff.1 hx1).1; simpa using this
              obtain rfl : m = xs.length := by omega
              rw [List.getElem?_append_right (Nat.le_refl _), Nat.sub_self] at hx1
              rw [List.getElem?_append_right (by rw [hS.len]; exact Nat.le_refl _), hS.len, Nat.sub_self] at hl1
              simp at hx1 hl1
              subst hx1 hl1
              have := g1 hne
              have := hu.lt hn2
              omega
          exact ⟨f2 _ (c1.lt hne) (dis _ fun h => (hd h).1), f2 _ (c2.lt hne2) (dis _ fun h => (hd h).2)⟩)
      have hgood : ∀ l ∈ al ++ [res], l.Nodup ∧ LabsOk dm l := fun l hl => by
        rcases List.mem_append.1 hl with h | h
        · exact hal l h
        · simp at h
          subst h
          rw [← hres]
          have q1 := hal _ (List.getElem_mem (show pa < al.length by omega))
          have q2 := hal _ (List.getElem_mem (show pb < al.length by omega))
          exact ⟨(joinL_nodup q1.1 q2.1).filter _, fun x hx' => (LabsOk.join q1.2 q2.2) x (List.mem_filter.1 hx').1⟩
      have hnums : (wof (al ++ [res]) gn' 0).map (·.1) = ((wof al gn 0).map (·.1)).filter (fun x => x != ps[i].a && x != ps[i].b) ++ [(al.length : Int)] := by
        rw [← w1']
        unfold stepW dropW
        rw [List.map_append, List.filter_map]
        rfl
      have hlen1 : (((al ++ [res]).length : Nat) : Int) = (al.length : Int) + 1 := by simp
      obtain ⟨sa2, sg2, u2, xs2, al2, gn2, H3, e3, S3, o3, z3, good3, x3⟩ := c_sl17Run_0 (s := s) (r := r) hp hpl hou hol k (i + 1) H2 sa' sg' u' (xs ++ [x']) (al ++ [res]) gn' (acc ++ [costL dm (joinL al[pa] al[pb])]) (by omega) S2 (by simp; omega) hgood
        (by rw [hnums, hlen1]; exact hord) o2 (by simp; omega)
        (fun m x l hx1 hl1 hne _ => by
          obtain ⟨c1, c2⟩ := S1.labs m x l hx1 hl1
          have hne2 : l.map dm ≠ [] := fun e => hne (List.map_eq_nil_iff.1 e)
          have := c1.lt hne
          have := c2.lt hne2
          omega)
      refine ⟨sa2, sg2, u2, xs2, al2, gn2, H3, ?_, S3, ?_, ?_, good3, x3⟩
      · rw [R_eq, e_sl17Run_0, lt_true hlt, w1 hlt (by omega), cond_true, (hp.le hS.le).ld hlt, ea, eb, e1]
        simp only [Option.bind_some, one_int]
        rw [e2]
        exact e3
      · simp only [costsW]
        rw [w2, w1', ← hlen1]
        rw [List.append_assoc, List.singleton_append] at o3
        exact o3
      · simp only [labsL]
        rw [w3, w1', ← hlen1, z3]
        simp
    · cases hord
end Go.Abs
/- Plans: the shapes of a network (spec). -/
namespace Go.Abs
set_option linter.all false
set_option maxRecDepth 10000

/-- A tensor more. -/
theorem c_sl17New_s {H0 H : AH} {bs : Nat} {sa sg v1 v2 : Sl} {xs : List Tri} {al : List (List Int)} {gn : List Bool} {dm : Int → Int} {l : List Int} (hS : LS H0 H bs sa sg xs al gn dm) (hx : xs.length ≤ 500) (h1 : IS H v1 l) (h2 : IS H v2 (l.map dm)) {α : Type} (K : AH → Option α) :
    ∃ sa' sg' H', ((rdB ((reserve H 1).set (H.length + 0) deadB) bs).bind fun c7 => (slAt c7 (0 + 0)).bind fun s8 => (newAt (reserve H 1) (H.length + 0) 3 [.sl v1, .sl v2, .sl ⟨0, 0, 0, 0, true⟩]).bind fun h9 => (rng h9.2 h9.1 0 (1 * 3)).bind fun l10 => (appB h9.2 3 72 s8 l10 1).bind fun m11 => (putR m11.2 bs (0 + 0) [.sl m11.1]).bind fun H12 =>
      (rdB H12 bs).bind fun c13 => (slAt c13 (0 + 1)).bind fun s14 => (newB H12 1 [.bool false]).bind fun h15 => (rng h15.2 h15.1 0 (1 * 1)).bind fun l16 => (appB h15.2 1 1 s14 l16 1).bind fun m17 => (putR m17.2 bs (0 + 1) [.sl m17.1]).bind K) = K H' ∧ LS H0 H' bs sa' sg' (xs ++ [(v1, v2, ⟨0, 0, 0, 0, true⟩)]) (al ++ [l]) (gn ++ [false]) dm := by
  have hbs : bs < H.length := (List.getElem?_eq_some_iff.1 hS.blk).1
  have hlo := hS.lo
  have hle := hS.le.len
  have hgl : gn.length = xs.length := hS.glen
  have n1 : gn ≠ [] → sg.b ≠ bs ∧ H0.length ≤ sg.b ∧ H[sg.b]? = some ⟨bcs gn, .rw, 1⟩ := fun hne => by
    rcases hS.gone.blk with ⟨e, _⟩ | ⟨_, a, b⟩
    · exact absurd (List.map_eq_nil_iff.1 e) hne
    · exact ⟨fun e => by rw [e, hS.blk] at b; simp at b, a, b⟩
  have n2 : xs ≠ [] → sa.b ≠ bs ∧ H0.length ≤ sa.b ∧ H[sa.b]? = some ⟨triC xs, .rw, 3⟩ := fun hne => by
    rcases hS.all.blk with ⟨e, _⟩ | ⟨_, a, b⟩
    · exact absurd e hne
    · exact ⟨fun e => by rw [e, hS.blk] at b; simp at b, a, b⟩
  have hne2 : gn ≠ [] ↔ xs ≠ [] := by
    rw [← List.length_pos_iff, ← List.length_pos_iff, hgl]
  have n3 : xs ≠ [] → sa.b ≠ sg.b := fun hne e => by
    have b := (n2 hne).2.2
    rw [e, (n1 (hne2.2 hne)).2.2] at b
    simp at b
  have dis : ∀ (d : Nat) (P : Prop), (¬ P → d ≠ sa.b) → (d ≠ sa.b ∨ P) := fun d P h => by
    by_cases e : P
    · exact .inr e
    · exact .inl (h e)
  have le6 := Go.Abs.Le.app H [⟨[.sl v1, .sl v2, .sl ⟨0, 0, 0, 0, true⟩], .rw, 3⟩]
  obtain ⟨sa', H6, e6, _, O6, l6, f6⟩ := outer_push (rs := []) (Fr.of (hS.le.trans le6)) (hS.all.le le6) (by omega) v1 v2 ⟨0, 0, 0, 0, true⟩
  simp only [List.length_append, List.length_cons, List.length_nil] at l6 f6
  have k6 : ∀ d, d < H.length → (d ≠ sa.b ∨ xs = []) → H6[d]? = H[d]? := fun d hd hne => by rw [f6 d (by omega) hne, le6.get d hd]
  have b6 : H6[bs]? = some ⟨[.sl sa, .sl sg], .rw, 2⟩ := by rw [k6 bs hbs (dis _ _ fun h => Ne.symm (n2 h).1)]; exact hS.blk
  have p7 : putR H6 bs (0 + 0) [.sl sa'] = some (H6.set bs ⟨[.sl sa', .sl sg], .rw, 2⟩) := by rw [put_cell b6 (by simp)]; rfl
  generalize hH7 : H6.set bs ⟨[.sl sa', .sl sg], .rw, 2⟩ = H7 at *
  have l7 : H7.length = H6.length := by rw [← hH7]; simp
  have f7 : ∀ d, d ≠ bs → H7[d]? = H6[d]? := fun d hd => by rw [← hH7]; exact List.getElem?_set_ne (Ne.symm hd)
  have b7 : H7[bs]? = some ⟨[.sl sa', .sl sg], .rw, 2⟩ := by rw [← hH7]; exact set_get b6
  have gone7 : CO 1 H0.length H7 sg (bcs gn) := hS.gone.keep fun hne => by
    have hg : gn ≠ [] := fun e => hne (by rw [e]; rfl)
    obtain ⟨a, b, c⟩ := n1 hg
    rw [f7 _ a, k6 _ (List.getElem?_eq_some_iff.1 c).1 (.inl (Ne.symm (n3 (hne2.1 hg))))]
  have le8 := Go.Abs.Le.app H7 [⟨[.bool false], .rw, 1⟩]
  have hsn : sg.n = gn.length := by have := hS.gone.n; simpa [bcs] using this
  obtain ⟨sg', H8, e8, O8, n8, l8, f8⟩ := (gone7.le le8).push (by_ := 1) (new := [.bool false]) (by simp; omega) (by omega) (by omega) rfl (by rw [hsn]; unfold most; omega)
  simp only [List.length_append, List.length_cons, List.length_nil] at l8 f8
  have k8 : ∀ d, d < H7.length → (d ≠ sg.b ∨ bcs gn = []) → H8[d]? = H7[d]? := fun d hd hne => by rw [f8 d (by omega) hne, le8.get d hd]
  have disg : ∀ d, (gn ≠ [] → d ≠ sg.b) → (d ≠ sg.b ∨ bcs gn = []) := fun d h => by
    by_cases e : gn = []
    · exact .inr (by rw [e]; rfl)
    · exact .inl (h e)
  have b8 : H8[bs]? = some ⟨[.sl sa', .sl sg], .rw, 2⟩ := by rw [k8 bs (by omega) (disg _ fun h => Ne.symm (n1 h).1)]; exact b7
  have p9 : putR H8 bs (0 + 1) [.sl sg'] = some (H8.set bs ⟨[.sl sa', .sl sg'], .rw, 2⟩) := by rw [put_cell b8 (by simp)]; rfl
  generalize hH9 : H8.set bs ⟨[.sl sa', .sl sg'], .rw, 2⟩ = H9 at *
  have l9 : H9.length = H8.length := by rw [← hH9]; simp
  have f9 : ∀ d, d ≠ bs → H9[d]? = H8[d]? := fun d hd => by rw [← hH9]; exact List.getElem?_set_ne (Ne.symm hd)
  have b9 : H9[bs]? = some ⟨[.sl sa', .sl sg'], .rw, 2⟩ := by rw [← hH9]; exact set_get b8
  have stay : ∀ d, d < H.length → d ≠ bs → (xs ≠ [] → d ≠ sa.b) → (gn ≠ [] → d ≠ sg.b) → H9[d]? = H[d]? := fun d hd a b c => by
    rw [f9 d a, k8 d (by omega) (disg d c), f7 d a, k6 d hd (dis d _ b)]
  have isStay : ∀ {s : Sl} {l : List Int}, IS H s l → IS H9 s l := fun h => h.keepB fun hl => stay _ (h.lt hl) (is_ne h hl hS.blk (two_noint _ _)) (fun e => is_ne h hl (n2 e).2.2 (triC_noint _)) (fun e => is_ne h hl (n1 e).2.2 (bcs_noint _))
  refine ⟨sa', sg', H9, ?_, ⟨⟨by omega, fun d hd => ?_⟩, b9, hlo, ?_, ?_, by simp [hS.len], by simp [hS.glen], ?_⟩⟩
  · have hs0 : ∀ a b : Sl, slAt [Sc.sl a, Sc.sl b] (0 + 0) = some a := fun a b => rfl
    have hs1 : ∀ a b : Sl, slAt [Sc.sl a, Sc.sl b] (0 + 1) = some b := fun a b => rfl
    have r5 : rdB ((H ++ [resB]).set (H.length + 0) deadB) bs = some [.sl sa, .sl sg] := by
      unfold rdB
      rw [List.getElem?_set_ne (by omega), List.getElem?_append_left (by omega), hS.blk]; rfl
    have hnb : newAt (H ++ [resB]) (H.length + 0) 3 [.sl v1, .sl v2, .sl ⟨0, 0, 0, 0, true⟩] = some (H.length, H ++ [⟨[.sl v1, .sl v2, .sl ⟨0, 0, 0, 0, true⟩], .rw, 3⟩]) := by
      rw [Nat.add_zero, newAt_ok (by simp) (by omega)]
      simp
    have r7 : rdB H7 bs = some [.sl sa', .sl sg] := by unfold rdB; rw [b7]; rfl
    have hnb2 : newB H7 1 [.bool false] = some (H7.length, H7 ++ [⟨[.bool false], .rw, 1⟩]) := rfl
    rw [reserve1, r5]
    simp only [Option.bind_some, hs0]
    rw [hnb]
    simp only [Option.bind_some]
    rw [rng_new (cs := [.sl v1, .sl v2, .sl ⟨0, 0, 0, 0, true⟩]) (z := 3) (m := 1 * 3) (by simp) rfl (by omega)]
    simp only [Option.bind_some]
    rw [e6]
    simp only [Option.bind_some]
    rw [p7]
    simp only [Option.bind_some]
    rw [r7]
    simp only [Option.bind_some, hs1]
    rw [hnb2]
    simp only [Option.bind_some]
    rw [rng_new (cs := [.bool false]) (z := 1) (m := 1 * 1) (by simp) rfl (by omega)]
    simp only [Option.bind_some]
    rw [e8]
    simp only [Option.bind_some]
    rw [p9]
    simp only [Option.bind_some]
  · rw [stay d (by omega) (by omega) (fun e => by have := (n2 e).2.1; omega) (fun e => by have := (n1 e).2.1; omega)]
    exact hS.le.get d hd
  · refine O6.keep fun hne => ?_
    rcases O6.blk with ⟨e, _⟩ | ⟨_, _, hb⟩
    · exact absurd e hne
    · have q1 : sa'.b ≠ bs := fun e => by rw [e, b6] at hb; simp at hb
      have q3 : sa'.b < H6.length := (List.getElem?_eq_some_iff.1 hb).1
      rw [f9 _ q1, k8 _ (by omega) (disg _ fun hg e => by
        obtain ⟨a, _, c⟩ := n1 hg
        rw [e, k6 _ (List.getElem?_eq_some_iff.1 c).1 (.inl (Ne.symm (n3 (hne2.1 hg)))), c] at hb
        simp at hb), f7 _ q1]
  · have hbc : bcs (gn ++ [false]) = bcs gn ++ [.bool false] := by simp [bcs]
    rw [hbc]
    refine O8.keep fun hne => ?_
    rcases O8.blk with ⟨e, _⟩ | ⟨_, _, hb⟩
    · exact absurd e hne
    · exact f9 _ fun e => by rw [e, b8] at hb; simp at hb
  · intro m x l' hx' hl'
    rcases Nat.lt_or_ge m xs.length with hm | hm
    · rw [List.getElem?_append_left hm] at hx'
      rw [List.getElem?_append_left (by rw [hS.len]; exact hm)] at hl'
      obtain ⟨c1, c2⟩ := hS.labs m x l' hx' hl'
      exact ⟨isStay c1, isStay c2⟩
    · have hm1 : m < xs.length + 1 := by have := (List.getElem?_eq_some_iff.1 hx').1; simpa using this
      obtain rfl : m = xs.length := by omega
      rw [List.getElem?_append_right (Nat.le_refl _), Nat.sub_self] at hx'
      rw [List.getElem?_append_right (by rw [hS.len]; exact Nat.le_refl _), hS.len, Nat.sub_self] at hl'
      simp at hx' hl'
      subst hx' hl'
      exact ⟨isStay h1, isStay h2⟩
end Go.Abs
/- Plans: the shapes of a network, whole (spec). -/
namespace Go.Abs
set_option linter.all false
set_option maxRecDepth 10000

/-- spec.l17New: the tensors -/
theorem c_sl17New_0 {H0 : AH} {bs : Nat} {s : Sl} {ts : List Tn} {dm : Int → Int} (hT : T3 H0 s ts) (hl : ts.length ≤ 12) (hd : ∀ t ∈ ts, t.D = t.L.map dm) :
    ∀ (k i : Nat) (H : AH) (sa sg : Sl) (xs : List Tri), i + k = ts.length → LS H0 H bs sa sg xs ((ts.take i).map (·.L)) (List.replicate i false) dm →
      ∃ sa' sg' xs' H', R (.loop F.sl17New 0) [.sc (.hp bs 0), ssc s, isc (ts.length : Int), isc (i : Int)] H = some ⟨2, [], H'⟩ ∧ LS H0 H' bs sa' sg' xs' (ts.map (·.L)) (List.replicate ts.length false) dm
  | 0, i, H, sa, sg, xs, hi, hS => by
    obtain rfl : i = ts.length := by omega
    rw [List.take_length] at hS
    exact ⟨sa, sg, xs, H, by rw [R_eq, e_sl17New_0, lt_self]; rfl, hS⟩
  | k + 1, i, H, sa, sg, xs, hi, hS => by
    have hlt : i < ts.length := by omega
    have hxl : xs.length = i := by rw [← hS.glen]; simp
    obtain ⟨a, b, c, ht, kt⟩ := (hT.le hS.le).ld hlt
    have hD := ht.D
    rw [hd _ (List.getElem_mem hlt)] at hD
    obtain ⟨sa1, sg1, H1, e1, S1⟩ := c_sl17New_s hS (by omega) ht.L hD (fun H18 => R (.loop F.sl17New 0) [.sc (.hp bs 0), ssc s, isc (ts.length : Int), isc ((i + 1 : Nat) : Int)] H18)
    have S1' : LS H0 H1 bs sa1 sg1 (xs ++ [(a, b, ⟨0, 0, 0, 0, true⟩)]) ((ts.take (i + 1)).map (·.L)) (List.replicate (i + 1) false) dm := by
      rw [take_snocT hlt, List.map_append, List.replicate_succ']
      exact S1
    obtain ⟨sa2, sg2, xs2, H2, e2, S2⟩ := c_sl17New_0 hT hl hd k (i + 1) H1 sa1 sg1 _ (by omega) S1'
    refine ⟨sa2, sg2, xs2, H2, ?_, S2⟩
    rw [R_eq, e_sl17New_0, lt_true hlt, w1 hlt (by omega), cond_true, kt]
    exact e1.trans e2
end Go.Abs
/- Plans: the shapes of a network, the call (spec). -/
namespace Go.Abs
set_option linter.all false
set_option maxRecDepth 10000

/-- spec.l17New -/
theorem c_sl17New {r : Rg} {H : AH} {s u : Sl} {ts : List Tn} {dm : Int → Int} (hT : T3 H s ts) (hl : ts.length ≤ 12) (hd : ∀ t ∈ ts, t.D = t.L.map dm) :
    ∃ bs sa sg xs H', R (.fn F.sl17New) [npv r s u] H = some ⟨1, [.sc (.hp bs 0)], H'⟩ ∧ LS H H' bs sa sg xs (ts.map (·.L)) (List.replicate ts.length false) dm := by
  have l0 := Go.Abs.Le.app H [⟨[.sl ⟨0, 0, 0, 0, true⟩, .sl ⟨0, 0, 0, 0, true⟩], .rw, 2⟩]
  have S0 : LS H (H ++ [⟨[.sl ⟨0, 0, 0, 0, true⟩, .sl ⟨0, 0, 0, 0, true⟩], .rw, 2⟩]) H.length ⟨0, 0, 0, 0, true⟩ ⟨0, 0, 0, 0, true⟩ [] ((ts.take 0).map (·.L)) (List.replicate 0 false) dm :=
    ⟨l0, app_get, Nat.le_refl _, OOut.nil _ _ _, CO.nil _ _ _ _, by simp, by simp, fun i x l hx _ => by simp at hx⟩
  obtain ⟨sa, sg, xs, H', e, S1⟩ := c_sl17New_0 hT hl hd ts.length 0 _ _ _ [] (by omega) S0
  refine ⟨H.length, sa, sg, xs, H', ?_, S1⟩
  have e : R (.loop F.sl17New 0) [.sc (.hp H.length 0), ssc s, isc (ts.length : Int), isc 0] (H ++ [⟨[.sl ⟨0, 0, 0, 0, true⟩, .sl ⟨0, 0, 0, 0, true⟩], .rw, 2⟩]) = _ := e
  have hnb : newB H 2 [.sl ⟨0, 0, 0, 0, true⟩, .sl ⟨0, 0, 0, 0, true⟩] = some (H.length, H ++ [⟨[.sl ⟨0, 0, 0, 0, true⟩, .sl ⟨0, 0, 0, 0, true⟩], .rw, 2⟩]) := rfl
  rw [R_eq, e_sl17New, hnb]
  simp only [Option.bind_some]
  rw [hT.1, e]
  rfl
end Go.Abs
/- Pure: each tensor's dimensions are its labels', in a valid network; the start as numbers. -/
namespace Go.Abs
set_option linter.all false

theorem lk_in : ∀ {L D : List Int} {y d : Int}, lk L D y = some d → (y, d) ∈ L.zip D
  | [], _, y, d, h => by simp [lk] at h
  | a :: L, [], y, d, h => by simp [lk] at h
  | a :: L, e :: D, y, d, h => by
    unfold lk at h
    split at h
    · rename_i hc
      have hc : a = y := by simpa using hc
      cases h
      simp [hc]
    · simp [lk_in h]
theorem lk_mem : ∀ {L D : List Int}, L.Nodup → ∀ y ∈ L.zip D, lk L D y.1 = some y.2
  | [], _, _, y, h => by simp at h
  | a :: L, [], _, y, h => by simp at h
  | a :: L, e :: D, hd, y, h => by
    have hn := List.nodup_cons.1 hd
    unfold lk
    rcases List.mem_cons.1 (by simpa using h) with h | h
    · subst h; simp
    · have hm : y.1 ∈ L := (List.of_mem_zip h).1
      have : (a == y.1) = false := by
        have : a ≠ y.1 := fun e => hn.1 (e ▸ hm)
        simpa using this
      rw [this]
      simpa using lk_mem hn.2 y h
theorem dimF_app2 {r : Rg} (y : Int) : ∀ {pre q : List Tn}, (∀ u ∈ pre, tensorB r u = true) → dimF (pre ++ q) y = if 0 < dimF pre y then dimF pre y else dimF q y
  | [], q, _ => by
    have : dimF [] y = 0 := rfl
    rw [this, if_neg (by omega)]; rfl
  | u :: pre, q, h => by
    have hu := h u List.mem_cons_self
    have ih := dimF_app2 y (pre := pre) (q := q) fun v hv => h v (List.mem_cons_of_mem _ hv)
    rw [List.cons_append, lk_dim y (tensor_dims hu).1, lk_dim y (tensor_dims hu).1]
    cases hk : lk u.L u.D y with
    | none => exact ih
    | some d =>
      have h1 := ((tensor_facts hu).2.2 d (List.of_mem_zip (lk_in hk)).2).1
      simp only [Option.getD_some]
      rw [if_pos (by omega)]
theorem cons_dims {r : Rg} : ∀ {ts pre : List Tn}, (∀ u ∈ pre, tensorB r u = true) → consG r pre ts = true → ∀ t ∈ ts, ∀ y ∈ t.L.zip t.D, dimF (pre ++ ts) y.1 = y.2
  | [], _, _, _, t, ht, _, _ => by simp at ht
  | u :: ts, pre, hp, h, t, ht, y, hy => by
    simp only [consG, Bool.and_eq_true] at h
    rcases List.mem_cons.1 ht with rfl | ht
    · have hk := lk_mem (dist_nodup (tensor_facts h.1.1).2.1) y hy
      have ha := List.all_eq_true.1 h.1.2 y hy
      rw [dimF_app2 y.1 hp, lk_dim y.1 (tensor_dims h.1.1).1, hk]
      split
      · rename_i hpos
        have hpos : dimF pre y.1 > 0 := hpos
        rw [decide_eq_true hpos] at ha
        simpa using ha
      · rfl
    · have := cons_dims (ts := ts) (pre := pre ++ [u]) (fun v hv => by
        rcases List.mem_append.1 hv with hv | hv
        · exact hp v hv
        · simp at hv; subst hv; exact h.1.1) h.2 t ht y hy
      rw [List.append_assoc] at this
      exact this
theorem dims_map {f : Int → Int} : ∀ {L D : List Int}, L.length = D.length → (∀ y ∈ L.zip D, f y.1 = y.2) → D = L.map f
  | [], [], _, _ => rfl
  | a :: L, d :: D, hl, h => by
    have h0 := h (a, d) (by simp)
    have := dims_map (f := f) (L := L) (D := D) (by simpa using hl) fun y hy => h y (by simp [hy])
    simp only [List.map_cons]
    rw [← this, h0]
  | [], _ :: _, hl, _ => by simp at hl
  | _ :: _, [], hl, _ => by simp at hl
theorem net_dims {n : Nw} (hn : netB n = true) : ∀ t ∈ n.ts, t.D = t.L.map (dimF n.ts) := fun t ht => by
  have hm := net_mem hn
  simp only [netB, Bool.and_eq_true] at hn
  exact dims_map (tensor_dims (hm t ht)).1 fun y hy => cons_dims (pre := []) (by simp) hn.1.2 t ht y hy
theorem wof_W0 : ∀ (ts : List Tn) (k : Nat), wof (ts.map (·.L)) (List.replicate ts.length false) k = (ts.zipIdx k).map fun x => ((x.2 : Int), x.1.L)
  | [], k => rfl
  | t :: ts, k => by
    simp only [List.map_cons, List.length_cons, List.replicate_succ, wof, List.zipIdx_cons, Bool.false_eq_true, if_false]
    rw [wof_W0 ts (k + 1)]
theorem W0_nums (ts : List Tn) : (W0 ts).map (·.1) = (List.range ts.length).map fun i : Nat => (i : Int) := by
  unfold W0
  refine List.ext_getElem (by simp) fun i h1 h2 => ?_
  simp
end Go.Abs
/- Plans: the steps of a network, the call (spec). -/
namespace Go.Abs
set_option linter.all false
set_option maxRecDepth 10000

/-- A network's shapes as the reference needs them. -/
structure SN (n : Nw) : Prop where
  l : n.ts.length ≤ 12
  op : n.op.length ≤ 1000
  d : ∀ t ∈ n.ts, t.D = t.L.map (dimF n.ts)
  labs : ∀ t ∈ n.ts, t.L.Nodup ∧ LabsOk (dimF n.ts) t.L
theorem SN.net {n : Nw} (hn : netB n = true) : SN n := by
  obtain ⟨b1, b2, b3⟩ := netB_small hn
  exact ⟨b1, by omega, net_dims hn, fun t ht => ⟨dist_nodup (tensor_facts (net_mem hn t ht)).2.1, tensor_labs hn t ht⟩⟩
theorem shp_mem {a b : List Tn} (h : shp a = shp b) {t : Tn} (ht : t ∈ b) : ∃ u ∈ a, u.L = t.L ∧ u.D = t.D := by
  have : (t.L, t.D) ∈ shp b := List.mem_map.2 ⟨t, ht, rfl⟩
  rw [← h] at this
  obtain ⟨u, hu, e⟩ := List.mem_map.1 this
  simp only [Prod.mk.injEq] at e
  exact ⟨u, hu, e.1, e.2⟩
theorem SN.shp {a b : Nw} (h : SN a) (hs : Go.Abs.shp a.ts = Go.Abs.shp b.ts) (ho : a.op = b.op) : SN b := by
  refine ⟨by rw [← len_shp hs]; exact h.l, by rw [← ho]; exact h.op, fun t ht => ?_, fun t ht => ?_⟩
  · obtain ⟨u, hu, e1, e2⟩ := shp_mem hs ht
    rw [← e1, ← e2, ← dim_shp hs]; exact h.d u hu
  · obtain ⟨u, hu, e1, e2⟩ := shp_mem hs ht
    rw [← e1, ← dim_shp hs]; exact h.labs u hu
/-- spec.l17Run -/
theorem c_sl17Run {H : AH} {s u sp : Sl} {n : Nw} {ps : List Sp} (h : NS H s u n) (hS : SN n) (hp : S2 H sp ps) (hpl : ps.length ≤ 100) (ho : orderN ((List.range n.ts.length).map fun i : Nat => (i : Int)) n.ts.length ps = true) :
    ∃ bs sa sg uc xs al gn H', R (.fn F.sl17Run) [npv n.r s u, ssc sp] H = some ⟨1, [.sc (.hp bs 0), ssc uc], H'⟩ ∧ LS H H' bs sa sg xs al gn (dimF n.ts) ∧ IS H' uc (costsW n.op (dimF n.ts) (W0 n.ts) n.ts.length ps) ∧
      al.map (costL (dimF n.ts)) = (W0 n.ts).map (fun t => costL (dimF n.ts) t.2) ++ sizesW n.op (dimF n.ts) (W0 n.ts) n.ts.length ps ∧ (∀ l ∈ al, l.Nodup ∧ LabsOk (dimF n.ts) l) ∧ xs.length ≤ 300 ∧ al = n.ts.map (·.L) ++ labsL n.op (W0 n.ts) n.ts.length ps := by
  obtain ⟨bs, sa, sg, xs, H1, e1, S1⟩ := c_sl17New (r := n.r) (u := u) (dm := dimF n.ts) h.ts hS.l hS.d
  have l2 := Go.Abs.Le.app H1 [⟨[], .rw, 1⟩]
  have hw : wof (n.ts.map (·.L)) (List.replicate n.ts.length false) 0 = W0 n.ts := wof_W0 n.ts 0
  have hx : xs.length ≤ 200 + 0 := by
    have := S1.len
    have := hS.l
    simp only [List.length_map] at *
    omega
  obtain ⟨sa', sg', u', xs', al', gn', H', e2, S2', o2, z2, g2, x2⟩ := c_sl17Run_0 (r := n.r) (s := s) hp hpl h.op hS.op ps.length 0 (H1 ++ [⟨[], .rw, 1⟩]) sa sg ⟨H1.length, 0, 0, 0, true⟩ xs (n.ts.map (·.L)) (List.replicate n.ts.length false) [] (by omega) (S1.ext l2) hx
    (fun l hl => by
      obtain ⟨t, ht, rfl⟩ := List.mem_map.1 hl
      exact hS.labs t ht)
    (by rw [hw, W0_nums, List.length_map, List.drop_zero]; exact ho) ⟨rfl, rfl, rfl, .inl rfl, .inl ⟨rfl, rfl⟩⟩ (by simp) (fun _ _ _ _ _ _ hne => absurd rfl hne)
  rw [hw, List.length_map, List.drop_zero] at o2 z2
  refine ⟨bs, sa', sg', u', xs', al', gn', H', ?_, S2', by simpa using o2.is, ?_, g2, by omega, z2⟩
  · have e2 : R (.loop F.sl17Run 0) [.sc (.hp bs 0), ssc ⟨H1.length, 0, 0, 0, true⟩, ssc sp, isc (ps.length : Int), isc 0, npv n.r s u] (H1 ++ [⟨[], .rw, 1⟩]) = _ := e2
    have hnb : newB H1 1 [] = some (H1.length, H1 ++ [⟨[], .rw, 1⟩]) := rfl
    rw [R_eq, e_sl17Run, e1]
    simp only [Option.bind_some, one_hp]
    rw [hnb]
    simp only [Option.bind_some]
    rw [hp.1, e2]
    rfl
  · rw [z2, List.map_append, ← sizes_labs]
    congr 1
    unfold W0
    refine List.ext_getElem (by simp) fun i h1 h2 => ?_
    simp
end Go.Abs
/- Plans: cost and peak of a network (spec). -/
namespace Go.Abs
set_option linter.all false
set_option maxRecDepth 10000

theorem t_hs {α : Type} (b o : Nat) (s : Sl) (K : Nat × Nat → Sl → Option α) : ((lenP [.sc (.hp b o), ssc s] 2).bind fun _ => (nthP [.sc (.hp b o), ssc s] 0).bind fun p2 => p2.sc?.bind fun c3 => (ptrAt [c3] 0).bind fun p4 => (nthP [.sc (.hp b o), ssc s] 1).bind fun p5 => p5.sc?.bind fun c6 => (slAt [c6] 0).bind fun s7 => K p4 s7) = K (b, o) s := rfl
end Go.Abs
/- Plans: a plan is made and checked (spec); what it saves (both). -/
namespace Go.Abs
set_option linter.all false
set_option maxRecDepth 10000

end Go.Abs
/- Pure: two tensors are contracted, the sums in the order of the indices. -/
namespace Go.Abs
set_option linter.all false
set_option maxRecDepth 10000

theorem sum_zero (f : Int → Int) : ∀ l : List Int, (∀ x ∈ l, f x = 0) → (l.map f).sum = 0
  | [], _ => rfl
  | x :: l, h => by
    simp only [List.map_cons, List.sum_cons]
    rw [h x List.mem_cons_self, sum_zero f l fun y hy => h y (List.mem_cons_of_mem _ hy)]; rfl
theorem sum_mid (f : Int → Int) (y : Int) : ∀ a b : List Int, ((a ++ y :: b).map f).sum = f y + ((a ++ b).map f).sum
  | [], b => by simp
  | x :: a, b => by
    simp only [List.cons_append, List.map_cons, List.sum_cons]
    rw [sum_mid f y a b]; omega
theorem sum_sub (f : Int → Int) : ∀ {L m : List Int}, m.Nodup → L.Nodup → (∀ x ∈ L, x ∈ m) → (∀ x ∈ m, x ∉ L → f x = 0) → (m.map f).sum = (L.map f).sum
  | [], m, _, _, _, hz => by rw [sum_zero f m fun x hx => hz x hx (by simp)]; rfl
  | y :: L, m, hm, hL, hs, hz => by
    obtain ⟨m1, m2, rfl⟩ := List.append_of_mem (hs y List.mem_cons_self)
    have hn := List.nodup_cons.1 ((List.perm_middle).nodup_iff.1 hm)
    have hl := List.nodup_cons.1 hL
    rw [sum_mid, List.map_cons, List.sum_cons]
    rw [sum_sub f (L := L) (m := m1 ++ m2) hn.2 hl.2 (fun x hx => ?_) (fun x hx hx2 => ?_)]
    · have h1 := hs x (List.mem_cons_of_mem _ hx)
      rcases List.mem_append.1 h1 with h | h
      · exact List.mem_append.2 (.inl h)
      · rcases List.mem_cons.1 h with h | h
        · subst h; exact absurd hx hl.1
        · exact List.mem_append.2 (.inr h)
    · refine hz x ?_ fun h => ?_
      · rcases List.mem_append.1 hx with h | h
        · exact List.mem_append.2 (.inl h)
        · exact List.mem_append.2 (.inr (List.mem_cons_of_mem _ h))
      · rcases List.mem_cons.1 h with h | h
        · subst h; exact hn.1 hx
        · exact hx2 h
theorem dot_map (v g : Int → Int) : ∀ m : List Int, dotL (m.map v) (m.map g) = (m.map fun x => v x * g x).sum
  | [] => rfl
  | x :: m => by simp only [List.map_cons, dotL, List.sum_cons]; rw [dot_map v g m]
def gI (m I : List Int) (x : Int) : Int := (lk m I x).getD 0
theorem map_gI {m I : List Int} (hm : m.Nodup) (hl : m.length = I.length) : I = m.map (gI m I) := dims_map hl fun y hy => by unfold gI; rw [lk_mem hm y hy]; rfl
theorem fits_map (dm g : Int → Int) : ∀ L : List Int, fitsI (L.map dm) (L.map g) ↔ ∀ x ∈ L, 0 ≤ g x ∧ g x < dm x
  | [] => by simp [fitsI]
  | y :: L => by
    simp only [List.map_cons, fitsI, List.mem_cons, forall_eq_or_imp]
    rw [fits_map dm g L, and_assoc]
def strM (m L D : List Int) : List Int := strG m L.reverse D.reverse 1 (List.replicate m.length 0)
theorem strM_map (m L D : List Int) : strM m L D = m.map fun x => valS x L.reverse D.reverse 1 0 := by
  unfold strM
  rw [strG_val _ _ _ _ _ (by simp)]
  refine List.ext_getElem (by simp) fun i h1 h2 => ?_
  simp
theorem strM_len (m L D : List Int) : (strM m L D).length = m.length := by rw [strM_map]; simp
theorem dot_strM {m L D : List Int} {dm : Int → Int} {I : List Int} (hm : m.Nodup) (hL : L.Nodup) (hs : ∀ x ∈ L, x ∈ m) (hD : D = L.map dm) (hI : fitsI (m.map dm) I) : 0 ≤ dotL (strM m L D) I ∧ dotL (strM m L D) I < prd D := by
  have hl := fits_len hI
  rw [List.length_map] at hl
  have hg := map_gI hm hl.symm
  have hf : fitsI D (L.map (gI m I)) := by
    rw [hD, fits_map]
    rw [hg] at hI
    have := (fits_map dm (gI m I) m).1 hI
    exact fun x hx => this x (hs x hx)
  have e : dotL (strM m L D) I = offF D (L.map (gI m I)) := by
    conv => lhs; rw [hg]
    rw [strM_map, dot_map, sum_sub _ hm hL hs fun x _ hx => by rw [valS_none (by simpa using hx)]; simp, ← dot_map, str_full hL (by rw [hD]; simp)]
    exact dot_strF (fits_len hf)
  rw [e]
  exact offF_range hf
theorem strM_rng {m L D : List Int} (hL : L.Nodup) (hl : L.length = D.length) (hd : ∀ d ∈ D, 1 ≤ d) : ∀ x ∈ strM m L D, 0 ≤ x ∧ x ≤ prd D := fun x hx => by
  have hp := prd_pos hd
  rw [strM_map] at hx
  obtain ⟨y, hy, rfl⟩ := List.mem_map.1 hx
  by_cases hm : y ∈ L
  · have : valS y L.reverse D.reverse 1 0 ∈ strF D := by rw [← str_full hL hl]; exact List.mem_map.2 ⟨y, hm, rfl⟩
    have := strF_ge hd _ this
    omega
  · rw [valS_none (by simpa using hm)]; omega

/-- An element of a ring's tensors. -/
def VE (r : Rg) (x : List Int) : Prop := (x.length : Int) = widthR r ∧ ∀ v ∈ x, 0 ≤ v ∧ v ≤ topR r
def getE (w : Nat) (X : List Int) (n : Nat) : List Int := (X.drop (n * w)).take w
/-- One product is added. -/
def pairS (A M : List Int → List Int → List Int) (w : Nat) (sa sb so XA XB I : List Int) (E : List (List Int)) : List (List Int) :=
  E.set (dotL so I).toNat (A (E.getD (dotL so I).toNat []) (M (getE w XA (dotL sa I).toNat) (getE w XB (dotL sb I).toNat)))
def pairR (f : List Int → List (List Int) → List (List Int)) (D : List Int) : Nat → Nat → List (List Int) → List (List Int)
  | 0, _, E => E
  | k + 1, n, E => pairR f D k (n + 1) (f (idxF D (n : Int)) E)
/-- The ring's sums and products. -/
structure AlgOk (r : Rg) (A M : List Int → List Int → List Int) : Prop where
  rg : ringB r = true
  z : VE r (zeroR r)
  a : ∀ {x y}, VE r x → VE r y → VE r (A x y)
  m : ∀ {x y}, VE r x → VE r y → VE r (M x y)
def keepF (m K : List Int) : List Int := m.filter fun x => K.any fun y => x == y
def pairE (r : Rg) (A M : List Int → List Int → List Int) (dm : Int → Int) (a b : Tn) (m L : List Int) : List (List Int) :=
  pairR (pairS A M (widthR r).toNat (strM m a.L a.D) (strM m b.L b.D) (strM m L (L.map dm)) a.X b.X) (m.map dm) (prd (m.map dm)).toNat 0 (List.replicate (prd (L.map dm)).toNat (zeroR r))
def pairB (dm : Int → Int) (a b : Tn) (K : List Int) : Bool := decide (prd ((joinL a.L b.L).map dm) ≤ 65536) && decide (sizeB (keepF (joinL a.L b.L) K) ((keepF (joinL a.L b.L) K).map dm) ≠ -1)
def ctrT (r : Rg) (A M : List Int → List Int → List Int) (dm : Int → Int) (a b : Tn) (K : List Int) : Tn :=
  ⟨keepF (joinL a.L b.L) K, (keepF (joinL a.L b.L) K).map dm, (pairE r A M dm a b (joinL a.L b.L) (keepF (joinL a.L b.L) K)).flatten⟩
/-- A tensor that conforms to the dimensions of labels. -/
structure CT (r : Rg) (dm : Int → Int) (t : Tn) : Prop where
  ok : tensorB r t = true
  d : t.D = t.L.map dm
theorem CT.nodup {r : Rg} {dm : Int → Int} {t : Tn} (h : CT r dm t) : t.L.Nodup := dist_nodup (tensor_facts h.ok).2.1
theorem CT.labs {r : Rg} {dm : Int → Int} {t : Tn} (h : CT r dm t) : LabsOk dm t.L := fun x hx => by
  have h1 := (tensor_facts h.ok).1.2.2 x hx
  have h2 := (tensor_facts h.ok).2.2 (dm x) (by rw [h.d]; exact List.mem_map.2 ⟨x, hx, rfl⟩)
  exact ⟨h1.1, h1.2, h2.1, h2.2⟩
theorem CT.len {r : Rg} {dm : Int → Int} {t : Tn} (h : CT r dm t) : t.L.length ≤ 12 ∧ t.D.length = t.L.length := by
  have := tensor_dims h.ok
  omega
theorem joinL_in {a b : List Int} {x : Int} : x ∈ a ∨ x ∈ b → x ∈ joinL a b := by
  unfold joinL
  rw [List.mem_append]
  rintro (h | h)
  · exact .inl h
  · by_cases hx : x ∈ a
    · exact .inl hx
    · right
      have : ∀ (l : List Int) (i : Nat), x ∈ l → x ∈ colF (fun _ x => if (a.any fun y => x == y) then none else some x) l i := by
        intro l
        induction l with
        | nil => intro i h; simp at h
        | cons y l ih =>
          intro i h
          simp only [colF]
          rcases List.mem_cons.1 h with rfl | h
          · have hn : (a.any fun y => x == y) = false := by
              rw [List.any_eq_false]
              intro y hy e
              have e : x = y := by simpa using e
              exact hx (e ▸ hy)
            rw [hn]; simp
          · split
            · exact ih (i + 1) h
            · exact List.mem_cons_of_mem _ (ih (i + 1) h)
      exact this b 0 h
theorem getE_ve {r : Rg} {t : Tn} (h : tensorB r t = true) {n : Nat} (hn : (n : Int) < prd t.D) : VE r (getE (widthR r).toNat t.X n) := by
  have hT := tensor_ok h
  have hw := width_range hT.rg
  have hp := prd_pos hT.d.ge
  obtain ⟨w, hw'⟩ : ∃ w : Nat, widthR r = (w : Int) := ⟨(widthR r).toNat, by omega⟩
  obtain ⟨N, hN⟩ : ∃ N : Nat, prd t.D = (N : Int) := ⟨(prd t.D).toNat, by omega⟩
  have hl := hT.len
  rw [hw', hN, ← Int.natCast_mul] at hl
  have hl : t.X.length = N * w := by omega
  have hlt : n + 1 ≤ N := by omega
  have h2 : (n + 1) * w ≤ N * w := Nat.mul_le_mul_right _ hlt
  rw [Nat.add_mul, Nat.one_mul] at h2
  refine ⟨?_, fun v hv => ?_⟩
  · unfold getE
    rw [hw', Int.toNat_natCast, List.length_take, List.length_drop]
    omega
  · have hm := List.mem_of_mem_drop (List.mem_of_mem_take hv)
    have := List.all_eq_true.1 hT.all v hm
    simpa [inB] using this
theorem pairR_ok {r : Rg} {f : List Int → List (List Int) → List (List Int)} {D : List Int} {N : Nat} (hf : ∀ (n : Nat) E, E.length = N → (∀ e ∈ E, VE r e) → (n : Int) < prd D → (f (idxF D (n : Int)) E).length = N ∧ ∀ e ∈ f (idxF D (n : Int)) E, VE r e) :
    ∀ (k n : Nat) (E : List (List Int)), E.length = N → (∀ e ∈ E, VE r e) → ((n + k : Nat) : Int) ≤ prd D → (pairR f D k n E).length = N ∧ ∀ e ∈ pairR f D k n E, VE r e
  | 0, n, E, h1, h2, _ => ⟨h1, h2⟩
  | k + 1, n, E, h1, h2, h3 => by
    obtain ⟨g1, g2⟩ := hf n E h1 h2 (by omega)
    exact pairR_ok hf k (n + 1) _ g1 g2 (by omega)
/-- What a pair's walk needs. -/
structure PairC (r : Rg) (dm : Int → Int) (a b : Tn) (m L : List Int) : Prop where
  ca : CT r dm a
  cb : CT r dm b
  nm : m.Nodup
  ma : ∀ x ∈ a.L, x ∈ m
  mb : ∀ x ∈ b.L, x ∈ m
  ml : ∀ x ∈ L, x ∈ m
  nl : L.Nodup
  labs : LabsOk dm m
theorem PairC.fits {r : Rg} {dm : Int → Int} {a b : Tn} {m L : List Int} (h : PairC r dm a b m L) (n : Int) : fitsI (m.map dm) (idxF (m.map dm) n) := idxF_fits fun d hd => by
  obtain ⟨x, hx, rfl⟩ := List.mem_map.1 hd
  exact (h.labs x hx).2.2.1
theorem PairC.da {r : Rg} {dm : Int → Int} {a b : Tn} {m L : List Int} (h : PairC r dm a b m L) (n : Int) : 0 ≤ dotL (strM m a.L a.D) (idxF (m.map dm) n) ∧ dotL (strM m a.L a.D) (idxF (m.map dm) n) < prd a.D := dot_strM h.nm h.ca.nodup h.ma h.ca.d (h.fits n)
theorem PairC.db {r : Rg} {dm : Int → Int} {a b : Tn} {m L : List Int} (h : PairC r dm a b m L) (n : Int) : 0 ≤ dotL (strM m b.L b.D) (idxF (m.map dm) n) ∧ dotL (strM m b.L b.D) (idxF (m.map dm) n) < prd b.D := dot_strM h.nm h.cb.nodup h.mb h.cb.d (h.fits n)
theorem PairC.dl {r : Rg} {dm : Int → Int} {a b : Tn} {m L : List Int} (h : PairC r dm a b m L) (n : Int) : 0 ≤ dotL (strM m L (L.map dm)) (idxF (m.map dm) n) ∧ dotL (strM m L (L.map dm)) (idxF (m.map dm) n) < prd (L.map dm) := dot_strM h.nm h.nl h.ml rfl (h.fits n)
theorem PairC.step {r : Rg} {A M : List Int → List Int → List Int} {dm : Int → Int} {a b : Tn} {m L : List Int} (h : PairC r dm a b m L) (hA : AlgOk r A M) (n : Nat) (E : List (List Int)) (hl : E.length = (prd (L.map dm)).toNat) (hE : ∀ e ∈ E, VE r e) :
    (pairS A M (widthR r).toNat (strM m a.L a.D) (strM m b.L b.D) (strM m L (L.map dm)) a.X b.X (idxF (m.map dm) (n : Int)) E).length = (prd (L.map dm)).toNat ∧ ∀ e ∈ pairS A M (widthR r).toNat (strM m a.L a.D) (strM m b.L b.D) (strM m L (L.map dm)) a.X b.X (idxF (m.map dm) (n : Int)) E, VE r e := by
  have d1 := h.da n; have d2 := h.db n; have d3 := h.dl n
  unfold pairS
  refine ⟨by simpa using hl, fun e he => ?_⟩
  rcases List.mem_or_eq_of_mem_set he with he | rfl
  · exact hE e he
  · have hlt : (dotL (strM m L (L.map dm)) (idxF (m.map dm) (n : Int))).toNat < E.length := by omega
    refine hA.a ?_ (hA.m (getE_ve h.ca.ok (by omega)) (getE_ve h.cb.ok (by omega)))
    rw [List.getD_eq_getElem?_getD, List.getElem?_eq_getElem hlt]
    exact hE _ (List.getElem_mem hlt)
theorem pairC_of {r : Rg} {dm : Int → Int} {a b : Tn} (ha : CT r dm a) (hb : CT r dm b) (K : List Int) : PairC r dm a b (joinL a.L b.L) (keepF (joinL a.L b.L) K) :=
  ⟨ha, hb, joinL_nodup ha.nodup hb.nodup, fun x hx => joinL_in (.inl hx), fun x hx => joinL_in (.inr hx), fun x hx => (List.mem_filter.1 hx).1, (joinL_nodup ha.nodup hb.nodup).filter _, ha.labs.join hb.labs⟩
theorem PairC.out {r : Rg} {A M : List Int → List Int → List Int} {dm : Int → Int} {a b : Tn} {m L : List Int} (h : PairC r dm a b m L) (hA : AlgOk r A M) : (pairE r A M dm a b m L).length = (prd (L.map dm)).toNat ∧ ∀ e ∈ pairE r A M dm a b m L, VE r e := by
  unfold pairE
  have hpos : 0 ≤ prd (m.map dm) := by
    have := prd_pos (a := m.map dm) fun d hd => by
      obtain ⟨x, hx, rfl⟩ := List.mem_map.1 hd
      exact (h.labs x hx).2.2.1
    omega
  refine pairR_ok (fun n E h1 h2 _ => h.step hA n E h1 h2) _ _ _ (by simp) (fun e he => ?_) (by omega)
  rw [(List.mem_replicate.1 he).2]
  exact hA.z
theorem size_facts {L : List Int} {dm : Int → Int} (h : sizeB L (L.map dm) ≠ -1) : axesB L (L.map dm) = true ∧ DimsOk (L.map dm) := by
  unfold sizeB at h
  by_cases hx : axesB L (L.map dm) = true
  · rw [if_pos hx] at h
    have hd := axes_dims hx
    have hge : ∀ d ∈ L.map dm, 1 ≤ d := fun d hx => (hd.2.2 d hx).1
    have hp := prodC_min 4096 (L.map dm) 1 (by omega) (by omega) hge
    rw [Int.one_mul] at hp
    by_cases hc : prodC 4096 1 (L.map dm) > 4096
    · rw [if_pos hc] at h; exact absurd rfl h
    · exact ⟨hx, by have := hd.1; have := hd.2.1; omega, hd.2.2, by omega⟩
  · rw [if_neg hx] at h; exact absurd rfl h
theorem flatV_len {r : Rg} : ∀ {E : List (List Int)}, (∀ e ∈ E, VE r e) → (E.flatten.length : Int) = E.length * widthR r
  | [], _ => by simp
  | e :: E, h => by
    have h1 := (h e List.mem_cons_self).1
    have h2 := flatV_len (E := E) fun x hx => h x (List.mem_cons_of_mem _ hx)
    simp only [List.flatten_cons, List.length_append, List.length_cons, Int.natCast_add, h1, h2]
    rw [show ((1 : Nat) : Int) = 1 from rfl, Int.add_mul, Int.one_mul]; omega
theorem pair_ct {r : Rg} {A M : List Int → List Int → List Int} {dm : Int → Int} {a b : Tn} {K : List Int} (ha : CT r dm a) (hb : CT r dm b) (hA : AlgOk r A M) (hp : pairB dm a b K = true) : CT r dm (ctrT r A M dm a b K) := by
  have hC := pairC_of ha hb K
  obtain ⟨o1, o2⟩ := hC.out hA
  simp only [pairB, Bool.and_eq_true, decide_eq_true_eq] at hp
  obtain ⟨f1, f2⟩ := size_facts hp.2
  have hpos := prd_pos f2.ge
  refine ⟨tensor_mk ⟨hA.rg, f1, f2, ?_, ?_⟩, rfl⟩
  · show (((pairE r A M dm a b (joinL a.L b.L) (keepF (joinL a.L b.L) K)).flatten.length : Nat) : Int) = prd ((keepF (joinL a.L b.L) K).map dm) * widthR r
    rw [flatV_len o2, o1]
    congr 1; omega
  · refine List.all_eq_true.2 fun v hv => ?_
    obtain ⟨e, he, hve⟩ := List.mem_flatten.1 hv
    have := (o2 e he).2 v hve
    simpa [inB] using this
end Go.Abs
/- The sums and products of a ring, as the contraction needs them; they stand for the integers modulo a prime. -/
namespace Go.Abs
set_option linter.all false
set_option maxRecDepth 10000

structure RC (r : Rg) (A M : List Int → List Int → List Int) : Prop where
  alg : AlgOk r A M
  addI : ∀ {H : AH} {c s : Sl} {cs y : List Int}, H[c.b]? = some ⟨ics cs, .rw, 1⟩ → (c.n : Int) = widthR r → c.n ≤ c.c → c.o + c.n ≤ cs.length → VE r ((cs.drop c.o).take c.n) → IS H s y → VE r y → s.b ≠ c.b →
    R (.fn F.iaddInto) [r.pv, ssc c, ssc s] H = some ⟨1, [], H.set c.b ⟨ics (putL cs c.o (A ((cs.drop c.o).take c.n) y)), .rw, 1⟩⟩
  mulI : ∀ {H : AH} {b : Nat} {q : Bool} {s u : Sl} {z x y : List Int}, H[b]? = some ⟨ics z, .rw, 1⟩ → (z.length : Int) = widthR r → IS H s x → IS H u y → VE r x → VE r y → s.b ≠ b → u.b ≠ b →
    R (.fn F.imulInto) [r.pv, ssc ⟨b, 0, z.length, z.length, q⟩, ssc s, ssc u] H = some ⟨1, [], H.set b ⟨ics (M x y), .rw, 1⟩⟩
  addS : ∀ {H : AH} {s u : Sl} {x y : List Int}, IS H s x → IS H u y → VE r x → VE r y → ∃ s' H', R (.fn F.sl02Add) [r.pv, ssc s, ssc u] H = some ⟨1, [ssc s'], H'⟩ ∧ Go.Abs.Le H H' ∧ IS H' s' (A x y) ∧ H.length ≤ s'.b
  mulS : ∀ {H : AH} {s u : Sl} {x y : List Int}, IS H s x → IS H u y → VE r x → VE r y → ∃ s' H', R (.fn F.sl02Mul) [r.pv, ssc s, ssc u] H = some ⟨1, [ssc s'], H'⟩ ∧ Go.Abs.Le H H' ∧ IS H' s' (M x y)
theorem n_bool (b : Bool) {α : Type} (k : Bool → Option α) : ((nthP [bsc b] 0).bind fun p => p.sc?.bind fun c => (boolAt [c] 0).bind k) = k b := rfl
theorem putL_one (cs : List Int) (o : Nat) (v : Int) (h : o < cs.length) : putL cs o [v] = cs.set o v := by
  unfold putL
  rw [List.set_eq_take_append_cons_drop, if_pos h]
  simp
def modA (p : Int) (x y : List Int) : List Int := [(x.getD 0 0 + y.getD 0 0).tmod p]
def modM (p : Int) (x y : List Int) : List Int := [(x.getD 0 0 * y.getD 0 0).tmod p]
structure MP (r : Rg) : Prop where
  k : r.k = 2
  rg : ringB r = true
  lo : 2 ≤ r.p
  hi : r.p ≤ 1000003
theorem MP.w {r : Rg} (h : MP r) : widthR r = 1 := by
  have := h.k
  unfold widthR
  rw [if_neg (by omega), if_neg (by omega)]
theorem MP.top {r : Rg} (h : MP r) : topR r = r.p - 1 := by
  have := h.k; have := h.lo; have := h.hi
  unfold topR
  rw [if_neg (by omega), if_neg (by omega), if_neg (by omega), wrap_id] <;> omega
theorem MP.ve {r : Rg} (h : MP r) {x : List Int} : VE r x ↔ ∃ a, x = [a] ∧ 0 ≤ a ∧ a < r.p := by
  unfold VE
  rw [h.w, h.top]
  constructor
  · rintro ⟨h1, h2⟩
    match x, h1 with
    | [a], _ =>
      have := h2 a (by simp)
      exact ⟨a, rfl, this.1, by omega⟩
    | [], h1 => simp at h1
    | _ :: _ :: _, h1 => simp at h1; omega
  · rintro ⟨a, rfl, h1, h2⟩
    refine ⟨rfl, fun v hv => ?_⟩
    simp at hv; subst hv
    exact ⟨h1, by omega⟩
theorem tmod_rng {a p : Int} (ha : 0 ≤ a) (hp : 0 < p) : 0 ≤ a.tmod p ∧ a.tmod p < p := ⟨Int.tmod_nonneg _ ha, Int.tmod_lt_of_pos _ hp⟩
theorem MP.zero {r : Rg} (h : MP r) : VE r (zeroR r) := by
  refine h.ve.2 ⟨0, ?_, by omega, by have := h.lo; omega⟩
  have := h.k; have := h.w
  unfold zeroR
  rw [this, if_neg (by omega)]
  rfl
theorem MP.alg {r : Rg} (h : MP r) : AlgOk r (modA r.p) (modM r.p) := by
  have := h.lo
  refine ⟨h.rg, h.zero, fun {x y} hx hy => ?_, fun {x y} hx hy => ?_⟩
  · obtain ⟨a, rfl, a1, a2⟩ := h.ve.1 hx
    obtain ⟨b, rfl, b1, b2⟩ := h.ve.1 hy
    have := tmod_rng (a := a + b) (p := r.p) (by omega) (by omega)
    exact h.ve.2 ⟨_, rfl, this.1, this.2⟩
  · obtain ⟨a, rfl, a1, a2⟩ := h.ve.1 hx
    obtain ⟨b, rfl, b1, b2⟩ := h.ve.1 hy
    have := tmod_rng (a := a * b) (p := r.p) (Int.mul_nonneg a1 b1) (by omega)
    exact h.ve.2 ⟨_, rfl, this.1, this.2⟩
/-- The integers modulo a prime. -/
theorem MP.rc {r : Rg} (h : MP r) : RC r (modA r.p) (modM r.p) := by
  have hk := h.k; have hlo := h.lo; have hhi := h.hi; have hw := h.w
  have k1 : (r.k == 1) = false := by rw [hk]; rfl
  have k2 : (r.k == 2) = true := by rw [hk]; rfl
  have k3 : (r.k == 3) = false := by rw [hk]; rfl
  have k4 : (r.k == 4) = false := by rw [hk]; rfl
  have k5 : (r.k == 5) = false := by rw [hk]; rfl
  have k6 : (r.k == 6) = false := by rw [hk]; rfl
  have hp0 : (r.p == 0) = false := by simp; omega
  have hw1 : IntKind.wrap .i64 ((0 : Int) + 1) = 1 := by decide
  have sml : ∀ a b : Int, 0 ≤ a → a < r.p → 0 ≤ b → b < r.p → 0 ≤ a * b ∧ a * b ≤ 1000003 * 1000003 := fun a b h1 h2 h3 h4 => ⟨Int.mul_nonneg h1 h3, Int.mul_le_mul (by omega) (by omega) h3 (by omega)⟩
  refine ⟨h.alg, ?_, ?_, ?_, ?_⟩
  · intro H c s cs y hb hn hc hl hx hs hy hne
    rw [hw] at hn
    have hn1 : c.n = 1 := by omega
    rw [hn1] at hx hl ⊢
    obtain ⟨b, rfl, b1, b2⟩ := h.ve.1 hy
    obtain ⟨a, ha, a1, a2⟩ := h.ve.1 hx
    rw [ha]
    have hic : IS H c [a] := by
      refine ⟨hn1, hc, .inr ⟨ics cs, by unfold rdB; rw [hb]; rfl, fun i x hi => ?_⟩⟩
      rw [← ha, List.getElem?_take] at hi
      split at hi
      · rw [List.getElem?_drop] at hi
        simp [hi]
      · cases hi
    have hw2 : IntKind.wrap .i64 (a + b) = a + b := by rw [wrap_id] <;> omega
    have e0 : ∀ G : AH, R (.loop F.iaddInto 0) [ssc c, ssc s, isc 1, isc 1, r.pv] G = some ⟨3, [], G⟩ := fun G => by rw [R_eq, e_iaddInto_0]; rfl
    have e1 : R (.loop F.iaddInto 0) [ssc c, ssc s, isc 1, isc 0, r.pv] H = some ⟨3, [], H.set c.b ⟨ics (putL cs c.o (modA r.p [a] [b])), .rw, 1⟩⟩ := by
      have q1 := hic.ldk (i := 0) (by simp) (fun n39 => ((ixA s 0 1).bind fun o40 => (rdB H s.b).bind fun c41 => (intAt .i64 c41 o40).bind fun n42 => cond (r.p == 0) none ((ixA c 0 1).bind fun o43 => (putR H c.b o43 [.int .i64 (Int.tmod (IntKind.wrap .i64 (n39 + n42)) r.p)]).bind fun H44 => R (.loop F.iaddInto 0) [ssc c, ssc s, isc 1, isc (IntKind.wrap .i64 ((0 : Int) + 1)), r.pv] H44)))
      have q2 := hs.ldk (i := 0) (by simp) (fun n42 => cond (r.p == 0) none ((ixA c 0 1).bind fun o43 => (putR H c.b o43 [.int .i64 (Int.tmod (IntKind.wrap .i64 (a + n42)) r.p)]).bind fun H44 => R (.loop F.iaddInto 0) [ssc c, ssc s, isc 1, isc (IntKind.wrap .i64 ((0 : Int) + 1)), r.pv] H44))
      rw [R_eq, e_iaddInto_0]
      rw [show decide ((0 : Int) < 1) = true from rfl, cond_true]
      refine q1.trans ?_
      show ((ixA s 0 1).bind fun o40 => _) = _
      refine q2.trans ?_
      show cond (r.p == 0) none ((ixA c 0 1).bind fun o43 => (putR H c.b o43 [.int .i64 (Int.tmod (IntKind.wrap .i64 (a + b)) r.p)]).bind fun H44 => R (.loop F.iaddInto 0) [ssc c, ssc s, isc 1, isc (IntKind.wrap .i64 ((0 : Int) + 1)), r.pv] H44) = _
      have hix : ixA c 0 1 = some c.o := by
        have := ixA_nat (s := c) (i := 0) (z := 1) (by omega)
        simpa using this
      rw [hp0, cond_false, hix]
      simp only [Option.bind_some]
      rw [hw1, hw2, putR_one hb (by simp; omega)]
      simp only [Option.bind_some]
      rw [e0]
      have : (ics cs).set c.o (.int .i64 (Int.tmod (a + b) r.p)) = ics (putL cs c.o (modA r.p [a] [b])) := by
        have e : modA r.p [a] [b] = [Int.tmod (a + b) r.p] := rfl
        rw [e, putL_one _ _ _ (by omega)]
        simp [List.map_set]
      rw [this]
    rw [R_eq, e_iaddInto, hn1]
    simp only [k1, k3, k4, k5, k6, cond_false, Option.bind_some, Nat.beq, cond_true, n_bool]
    have e1 : R (.loop F.iaddInto 0) [ssc c, ssc s, isc ((1 : Nat) : Int), isc 0, r.pv] H = _ := e1
    rw [e1]
    rfl
  · intro H b q s u z x y hb hz hs hu hx hy h1 h2
    rw [hw] at hz
    obtain ⟨a, rfl, a1, a2⟩ := h.ve.1 hx
    obtain ⟨d, rfl, d1, d2⟩ := h.ve.1 hy
    obtain ⟨m1, m2⟩ := sml a d a1 a2 d1 d2
    have hw2 : IntKind.wrap .i64 (a * d) = a * d := by rw [wrap_id] <;> omega
    have hz1 : z.length = 1 := by omega
    obtain ⟨zz, rfl⟩ : ∃ v, z = [v] := by
      match z, hz1 with
      | [v], _ => exact ⟨v, rfl⟩
    rw [R_eq, e_imulInto]
    simp only [k1, k2, k5, cond_false, Option.bind_some, Nat.beq, cond_true, n_bool]
    have q1 := hs.ldk (i := 0) (by simp) (fun n15 => ((ixA u 0 1).bind fun o16 => (rdB H u.b).bind fun c17 => (intAt .i64 c17 o16).bind fun n18 => cond (r.p == 0) none ((ixA ⟨b, 0, 1, 1, q⟩ 0 1).bind fun o19 => (putR H b o19 [.int .i64 (Int.tmod (IntKind.wrap .i64 (n15 * n18)) r.p)]).bind fun H20 => some (⟨1, [], H20⟩ : Out))))
    have q2 := hu.ldk (i := 0) (by simp) (fun n18 => cond (r.p == 0) none ((ixA ⟨b, 0, 1, 1, q⟩ 0 1).bind fun o19 => (putR H b o19 [.int .i64 (Int.tmod (IntKind.wrap .i64 (a * n18)) r.p)]).bind fun H20 => some (⟨1, [], H20⟩ : Out)))
    refine q1.trans (q2.trans ?_)
    show cond (r.p == 0) none ((ixA ⟨b, 0, 1, 1, q⟩ 0 1).bind fun o19 => (putR H b o19 [.int .i64 (Int.tmod (IntKind.wrap .i64 (a * d)) r.p)]).bind fun H20 => some (⟨1, [], H20⟩ : Out)) = _
    rw [hp0, cond_false, hw2]
    rw [show ixA ⟨b, 0, 1, 1, q⟩ 0 1 = some 0 from rfl]
    simp only [Option.bind_some]
    rw [putR_one hb (by simp)]
    rfl
  · intro H s u x y hs hu hx hy
    obtain ⟨a, rfl, a1, a2⟩ := h.ve.1 hx
    obtain ⟨d, rfl, d1, d2⟩ := h.ve.1 hy
    have hw2 : IntKind.wrap .i64 (a + d) = a + d := by rw [wrap_id] <;> omega
    have hn : s.n = 1 := hs.n
    have l1 := Go.Abs.Le.app H [⟨[.int .i64 0], .rw, 1⟩]
    have hm : mkB H 1 8 [.int .i64 0] ((1 : Nat) : Int) ((1 : Nat) : Int) = some (⟨H.length, 0, 1, 1, true⟩, H ++ [⟨[.int .i64 0], .rw, 1⟩]) := mk_ints (n := 1) (by omega)
    refine ⟨⟨H.length, 0, 1, 1, true⟩, H ++ [⟨ics (modA r.p [a] [d]), .rw, 1⟩], ?_, Go.Abs.Le.app _ _, IS.of_blk (l := modA r.p [a] [d]) (c := 1) app_get (by simp [modA]), Nat.le_refl _⟩
    have e0 : ∀ G : AH, R (.loop F.sl02Add 0) [ssc s, ssc u, ssc ⟨H.length, 0, 1, 1, true⟩, isc 1, isc 1, r.pv] G = some ⟨2, [], G⟩ := fun G => by rw [R_eq, e_sl02Add_0]; rfl
    have e1 : R (.loop F.sl02Add 0) [ssc s, ssc u, ssc ⟨H.length, 0, 1, 1, true⟩, isc 1, isc 0, r.pv] (H ++ [⟨[.int .i64 0], .rw, 1⟩]) = some ⟨2, [], H ++ [⟨ics (modA r.p [a] [d]), .rw, 1⟩]⟩ := by
      rw [R_eq, e_sl02Add_0]
      rw [show decide ((0 : Int) < 1) = true from rfl, cond_true]
      simp only [k1, k3, k4, k5, k6, cond_false, Option.bind_some, Nat.beq, cond_true, n_bool]
      have q1 := (hs.le l1).ldk (i := 0) (by simp) (fun n40 => ((ixA u 0 1).bind fun o41 => (rdB (H ++ [⟨[.int .i64 0], .rw, 1⟩]) u.b).bind fun c42 => (intAt .i64 c42 o41).bind fun n43 => cond (r.p == 0) none ((ixA ⟨H.length, 0, 1, 1, true⟩ 0 1).bind fun o44 => (putR (H ++ [⟨[.int .i64 0], .rw, 1⟩]) H.length o44 [.int .i64 (Int.tmod (IntKind.wrap .i64 (n40 + n43)) r.p)]).bind fun H45 => R (.loop F.sl02Add 0) [ssc s, ssc u, ssc ⟨H.length, 0, 1, 1, true⟩, isc 1, isc (IntKind.wrap .i64 ((0 : Int) + 1)), r.pv] H45)))
      have q2 := (hu.le l1).ldk (i := 0) (by simp) (fun n43 => cond (r.p == 0) none ((ixA ⟨H.length, 0, 1, 1, true⟩ 0 1).bind fun o44 => (putR (H ++ [⟨[.int .i64 0], .rw, 1⟩]) H.length o44 [.int .i64 (Int.tmod (IntKind.wrap .i64 (a + n43)) r.p)]).bind fun H45 => R (.loop F.sl02Add 0) [ssc s, ssc u, ssc ⟨H.length, 0, 1, 1, true⟩, isc 1, isc (IntKind.wrap .i64 ((0 : Int) + 1)), r.pv] H45))
      refine q1.trans (q2.trans ?_)
      show cond (r.p == 0) none ((ixA ⟨H.length, 0, 1, 1, true⟩ 0 1).bind fun o44 => (putR (H ++ [⟨[.int .i64 0], .rw, 1⟩]) H.length o44 [.int .i64 (Int.tmod (IntKind.wrap .i64 (a + d)) r.p)]).bind fun H45 => R (.loop F.sl02Add 0) [ssc s, ssc u, ssc ⟨H.length, 0, 1, 1, true⟩, isc 1, isc (IntKind.wrap .i64 ((0 : Int) + 1)), r.pv] H45) = _
      rw [hp0, cond_false, hw2, hw1]
      rw [show ixA ⟨H.length, 0, 1, 1, true⟩ 0 1 = some 0 from rfl]
      simp only [Option.bind_some]
      rw [putR_one app_get (by simp), app_set]
      simp only [Option.bind_some]
      rw [e0]
      rfl
    rw [R_eq, e_sl02Add, hn, hm]
    simp only [Option.bind_some]
    have e1 : R (.loop F.sl02Add 0) [ssc s, ssc u, ssc ⟨H.length, 0, 1, 1, true⟩, isc ((1 : Nat) : Int), isc 0, r.pv] (H ++ [⟨[.int .i64 0], .rw, 1⟩]) = _ := e1
    rw [e1]
    rfl
  · intro H s u x y hs hu hx hy
    obtain ⟨a, rfl, a1, a2⟩ := h.ve.1 hx
    obtain ⟨d, rfl, d1, d2⟩ := h.ve.1 hy
    obtain ⟨m1, m2⟩ := sml a d a1 a2 d1 d2
    have hw2 : IntKind.wrap .i64 (a * d) = a * d := by rw [wrap_id] <;> omega
    have hn : s.n = 1 := hs.n
    have l1 := Go.Abs.Le.app H [⟨[.int .i64 0], .rw, 1⟩]
    have hm : mkB H 1 8 [.int .i64 0] ((1 : Nat) : Int) ((1 : Nat) : Int) = some (⟨H.length, 0, 1, 1, true⟩, H ++ [⟨[.int .i64 0], .rw, 1⟩]) := mk_ints (n := 1) (by omega)
    refine ⟨⟨H.length, 0, 1, 1, true⟩, H ++ [⟨ics (modM r.p [a] [d]), .rw, 1⟩], ?_, Go.Abs.Le.app _ _, IS.of_blk (l := modM r.p [a] [d]) (c := 1) app_get (by simp [modM])⟩
    rw [R_eq, e_sl02Mul, hn, hm]
    simp only [k1, k2, k6, cond_false, Option.bind_some, Nat.beq, cond_true, n_bool]
    have q1 := (hs.le l1).ldk (i := 0) (by simp) (fun n16 => ((ixA u 0 1).bind fun o17 => (rdB (H ++ [⟨[.int .i64 0], .rw, 1⟩]) u.b).bind fun c18 => (intAt .i64 c18 o17).bind fun n19 => cond (r.p == 0) none ((ixA ⟨H.length, 0, 1, 1, true⟩ 0 1).bind fun o20 => (putR (H ++ [⟨[.int .i64 0], .rw, 1⟩]) H.length o20 [.int .i64 (Int.tmod (IntKind.wrap .i64 (n16 * n19)) r.p)]).bind fun H21 => some (⟨1, [ssc ⟨H.length, 0, 1, 1, true⟩], H21⟩ : Out))))
    have q2 := (hu.le l1).ldk (i := 0) (by simp) (fun n19 => cond (r.p == 0) none ((ixA ⟨H.length, 0, 1, 1, true⟩ 0 1).bind fun o20 => (putR (H ++ [⟨[.int .i64 0], .rw, 1⟩]) H.length o20 [.int .i64 (Int.tmod (IntKind.wrap .i64 (a * n19)) r.p)]).bind fun H21 => some (⟨1, [ssc ⟨H.length, 0, 1, 1, true⟩], H21⟩ : Out)))
    refine q1.trans (q2.trans ?_)
    show cond (r.p == 0) none ((ixA ⟨H.length, 0, 1, 1, true⟩ 0 1).bind fun o20 => (putR (H ++ [⟨[.int .i64 0], .rw, 1⟩]) H.length o20 [.int .i64 (Int.tmod (IntKind.wrap .i64 (a * d)) r.p)]).bind fun H21 => some (⟨1, [ssc ⟨H.length, 0, 1, 1, true⟩], H21⟩ : Out)) = _
    rw [hp0, cond_false, hw2]
    rw [show ixA ⟨H.length, 0, 1, 1, true⟩ 0 1 = some 0 from rfl]
    simp only [Option.bind_some]
    rw [putR_one app_get (by simp), app_set]
    rfl
end Go.Abs
/- Contracts: axes that are joined and kept (impl), with their steps. -/
namespace Go.Abs
set_option linter.all false
set_option maxRecDepth 10000

/-- impl.dotOf, of more axes -/
theorem c_idotOf2 {H : AH} {a b : Sl} {l m : List Int} (ha : IS H a l) (hb : IS H b m) (hlm : l.length = m.length) (hl : l.length ≤ 100) (hx : ∀ x ∈ l, 0 ≤ x ∧ x ≤ 4096) (hy : ∀ x ∈ m, 0 ≤ x ∧ x ≤ 8) :
    R (.fn F.idotOf) [ssc a, ssc b] H = some ⟨1, [isc (dotL l m)], H⟩ := by
  have loop : ∀ (k i : Nat), i + k = l.length → ∀ x : Int, 0 ≤ x → x ≤ 32768 * i → R (.loop F.idotOf 0) [ssc a, ssc b, isc x, isc (l.length : Int), isc (i : Int)] H = some ⟨2, [isc (x + dotL (l.drop i) (m.drop i))], H⟩ := by
    intro k
    induction k with
    | zero =>
      intro i hi x _ _
      obtain rfl : i = l.length := by omega
      rw [R_eq, e_idotOf_0, lt_self, List.drop_eq_nil_of_le (Nat.le_refl _)]
      simp [dotL]
    | succ k ih =>
      intro i hi x h0 h1
      have h2 : i < l.length := by omega
      have h3 : i < m.length := by omega
      rw [R_eq, e_idotOf_0, lt_true h2, w1 h2 (by omega), cond_true, ha.ldk h2, hb.ldk h3]
      have q1 := hx l[i] (List.getElem_mem h2)
      have q2 := hy m[i] (List.getElem_mem h3)
      have q3 : 0 ≤ l[i] * m[i] := Int.mul_nonneg q1.1 q2.1
      have q4 : l[i] * m[i] ≤ 4096 * 8 := Int.mul_le_mul q1.2 q2.2 q2.1 (by omega)
      have w2 : IntKind.wrap .i64 (l[i] * m[i]) = l[i] * m[i] := by rw [wrap_id] <;> omega
      have w3 : IntKind.wrap .i64 (x + l[i] * m[i]) = x + l[i] * m[i] := by rw [wrap_id] <;> omega
      rw [w2, w3, ih (i + 1) (by omega) _ (by omega) (by omega), List.drop_eq_getElem_cons h2, List.drop_eq_getElem_cons h3]
      simp only [dotL]
      rw [Int.add_assoc]
  have := loop l.length 0 (by omega) 0 (by omega) (by omega)
  have this : R (.loop F.idotOf 0) [ssc a, ssc b, isc 0, isc (l.length : Int), isc 0] H = _ := this
  rw [R_eq, e_idotOf, ha.n, this]
  simp only [List.drop_zero, Int.zero_add]
  rfl
/-- impl.productOf, where the product is small -/
theorem c_iproductOf2 {H : AH} {s : Sl} {l : List Int} (h : IS H s l) (hm : l.length ≤ 1000) (hd : ∀ d ∈ l, 1 ≤ d) (hp : prd l ≤ 1099511627776) : R (.fn F.iproductOf) [ssc s] H = some ⟨1, [isc (prd l)], H⟩ := by
  have loop : ∀ (k i : Nat), i + k = l.length → ∀ x : Int, 1 ≤ x → x * prd (l.drop i) ≤ 1099511627776 → R (.loop F.iproductOf 0) [isc x, ssc s, isc (l.length : Int), isc (i : Int)] H = some ⟨2, [isc (x * prd (l.drop i))], H⟩ := by
    intro k
    induction k with
    | zero =>
      intro i hi x _ _
      obtain rfl : i = l.length := by omega
      rw [R_eq, e_iproductOf_0, lt_self, List.drop_eq_nil_of_le (Nat.le_refl _)]
      simp [prd]
    | succ k ih =>
      intro i hi x h0 h1
      have h2 : i < l.length := by omega
      have hdi := hd l[i] (List.getElem_mem h2)
      have hpp := prd_pos (a := l.drop (i + 1)) fun d hx => hd d (List.mem_of_mem_drop hx)
      rw [List.drop_eq_getElem_cons h2] at h1 ⊢
      simp only [prd] at h1 ⊢
      rw [← Int.mul_assoc] at h1 ⊢
      have h3 : 1 * 1 ≤ x * l[i] := Int.mul_le_mul h0 hdi (by omega) (by omega)
      have h4 : x * l[i] * 1 ≤ x * l[i] * prd (l.drop (i + 1)) := Int.mul_le_mul_of_nonneg_left hpp (by omega)
      have w2 : IntKind.wrap .i64 (x * l[i]) = x * l[i] := by rw [wrap_id] <;> omega
      rw [R_eq, e_iproductOf_0, lt_true h2, w1 h2 (by omega), cond_true, h.ldk h2, w2, ih (i + 1) (by omega) _ (by omega) h1]
  have := loop l.length 0 (by omega) 1 (by omega) (by rw [List.drop_zero, Int.one_mul]; exact hp)
  have this : R (.loop F.iproductOf 0) [isc 1, ssc s, isc (l.length : Int), isc 0] H = _ := this
  rw [R_eq, e_iproductOf, h.n, this]
  simp only [List.drop_zero, Int.one_mul]
  rfl
/-- spec.l05Product, cut at the most work -/
theorem c_sl05Product_w {H : AH} {s : Sl} {l : List Int} (h : IS H s l) (hm : l.length ≤ 1048576) (hd : ∀ d ∈ l, 1 ≤ d ∧ d ≤ 8) : R (.fn F.sl05Product) [ssc s, isc 65536] H = some ⟨1, [isc (min (prd l) 65537)], H⟩ := by
  rw [R_eq, e_sl05Product, h.1]
  have := loopS (F := fun (a : Int) (i : Nat) => R (.loop F.sl05Product 0) [isc 65536, isc a, ssc s, isc (l.length : Int), isc (i : Int)] H) (l := l) (fun a _ => 0 ≤ a ∧ a ≤ 65537) (fun a l _ => some ⟨2, [isc (prodC 65536 a l)], H⟩)
    (fun a _ => by rw [R_eq, e_sl05Product_0, lt_self]; rfl) (fun a i hi r ha ih => by
      rw [R_eq, e_sl05Product_0, h.ldk hi, lt_true hi, w1 hi (by omega)]
      have hdi := hd l[i] (List.getElem_mem hi)
      have h1 : 0 ≤ a * l[i] := Int.mul_nonneg ha.1 (by omega)
      have h2 : a * l[i] ≤ 65537 * 8 := Int.mul_le_mul ha.2 hdi.2 (by omega) (by omega)
      have e1 : IntKind.wrap .i64 (a * l[i]) = a * l[i] := by rw [wrap_id] <;> omega
      have e2 : IntKind.wrap .i64 ((65536 : Int) + 1) = 65537 := by rw [wrap_id] <;> omega
      simp only [cond_true, e1, e2, prodC]
      exact ih _ (by split <;> omega)) 1 (by omega)
  have e := prodC_min 65536 l 1 (by omega) (by omega) fun d hx => (hd d hx).1
  rw [Int.one_mul] at e
  rw [show ((0 : Int)) = ((0 : Nat) : Int) from rfl, this, e]
  rfl
/-- impl.stridesOf: an axis, of more labels -/
theorem c_istridesOf2_1 {H : AH} {a b c ms : Sl} {L m : List Int} (hL : IS H a L) (hm : IS H ms m) (hml : m.length ≤ 100) {p : Nat} (hp : p < L.length) (step : Int) :
    ∀ (k i : Nat) (S : List Int), i + k = m.length → S.length = m.length →
      R (.loop F.istridesOf 1) [ssc ⟨H.length, 0, m.length, m.length, true⟩, isc step, isc (p : Int), ssc ms, isc (m.length : Int), isc (i : Int), tpv a b c] (H ++ [⟨ics S, .rw, 1⟩]) = some ⟨4, [], H ++ [⟨ics (S.take i ++ updS (m.drop i) (S.drop i) L[p] step), .rw, 1⟩]⟩
  | 0, i, S, hi, hS => by
    obtain rfl : i = m.length := by omega
    rw [R_eq, e_istridesOf_1, lt_self, List.drop_eq_nil_of_le (Nat.le_refl _)]
    rw [List.take_of_length_le (by omega)]
    simp [updS]
  | k + 1, i, S, hi, hS => by
    have hlt : i < m.length := by omega
    have hle := Go.Abs.Le.app H [⟨ics S, .rw, 1⟩]
    rw [R_eq, e_istridesOf_1, lt_true hlt, w1 hlt (by omega), cond_true, (hm.le hle).ldk hlt, (hL.le hle).ldk hp]
    have hu : updS (m.drop i) (S.drop i) L[p] step = (if m[i] == L[p] then step else S[i]) :: updS (m.drop (i + 1)) (S.drop (i + 1)) L[p] step := by
      rw [List.drop_eq_getElem_cons hlt, List.drop_eq_getElem_cons (show i < S.length by omega)]
      rfl
    rw [hu]
    by_cases he : (m[i] == L[p]) = true
    · rw [he, cond_true, st_own0 app_get hlt (by omega), app_set, if_pos rfl]
      rw [c_istridesOf2_1 hL hm hml hp step k (i + 1) (S.set i step) (by omega) (by simpa using hS)]
      have e1 : (S.set i step).take (i + 1) = S.take i ++ [step] := by
        rw [take_snoc' (by simp; omega), List.getElem_set_self]
        congr 1
        refine List.ext_getElem? fun d => ?_
        rw [List.getElem?_take, List.getElem?_take]
        split
        · rw [List.getElem?_set_ne (by omega)]
        · rfl
      have e2 : (S.set i step).drop (i + 1) = S.drop (i + 1) := by
        rw [List.drop_set_of_lt (by omega)]
      rw [e1, e2]
      simp
    · have he' : (m[i] == L[p]) = false := by simpa using he
      rw [he', cond_false, c_istridesOf2_1 hL hm hml hp step k (i + 1) S (by omega) hS]
      rw [take_snoc' (show i < S.length by omega), if_neg (by simp), List.append_assoc, List.singleton_append]
/-- impl.stridesOf, of more labels -/
theorem c_istridesOf2 {H : AH} {a b c ms : Sl} {L D m : List Int} (hL : IS H a L) (hD : IS H b D) (hm : IS H ms m) (hml : m.length ≤ 100) (hl : L.length = D.length) (hd : DimsOk D) :
    R (.fn F.istridesOf) [tpv a b c, ssc ms] H = some ⟨1, [ssc ⟨H.length, 0, m.length, m.length, true⟩], H ++ [⟨ics (strM m L D), .rw, 1⟩]⟩ := by
  have hdl := hd.1
  have loop : ∀ (k : Nat) (step : Int) (S : List Int), k ≤ D.length → S.length = m.length → 1 ≤ step → step * prd (D.take k) ≤ 4096 →
      R (.loop F.istridesOf 0) [ssc ms, ssc ⟨H.length, 0, m.length, m.length, true⟩, isc step, isc ((k : Int) - 1), tpv a b c] (H ++ [⟨ics S, .rw, 1⟩]) = some ⟨2, [], H ++ [⟨ics (strG m (L.take k).reverse (D.take k).reverse step S), .rw, 1⟩]⟩ := by
    intro k
    induction k with
    | zero =>
      intro step S hk hS h1 h2
      rw [R_eq, e_istridesOf_0, ge_false]
      simp [strG]
    | succ k ih =>
      intro step S hk hS h1 h2
      have hlt : k < D.length := by omega
      have hlt2 : k < L.length := by omega
      have hdk := hd.2.1 D[k] (List.getElem_mem hlt)
      rw [take_snoc' hlt, prd_app] at h2
      have hp := prd_pos (a := D.take k) fun x hx => hd.ge x (List.mem_of_mem_take hx)
      have e0 : prd [D[k]] = D[k] := by simp [prd]
      rw [e0, Int.mul_comm (prd (D.take k)), ← Int.mul_assoc] at h2
      have h3 : 1 * 1 ≤ step * D[k] := Int.mul_le_mul h1 hdk.1 (by omega) (by omega)
      have h4 : step * D[k] * 1 ≤ step * D[k] * prd (D.take k) := Int.mul_le_mul_of_nonneg_left hp (by omega)
      have ew : IntKind.wrap .i64 (step * D[k]) = step * D[k] := by rw [wrap_id] <;> omega
      rw [R_eq, e_istridesOf_0, ge_true, cond_true, down1]
      have e1 := c_istridesOf2_1 (b := b) (c := c) hL hm hml hlt2 step m.length 0 S (by omega) hS
      have e1 : R (.loop F.istridesOf 1) [ssc ⟨H.length, 0, m.length, m.length, true⟩, isc step, isc (k : Int), ssc ms, isc (m.length : Int), isc 0, tpv a b c] (H ++ [⟨ics S, .rw, 1⟩]) = _ := e1
      rw [hm.n, e1]
      simp only [Option.bind_some, Nat.beq, cond_true, List.take_zero, List.drop_zero, List.nil_append]
      rw [(hD.le (Go.Abs.Le.app H _)).ldk hlt, ew, wdown (by omega)]
      rw [ih (step * D[k]) (updS m S L[k] step) (by omega) (updS_len hS _ _) (by omega) h2]
      rw [take_snoc' hlt, take_snoc' hlt2, List.reverse_append, List.reverse_append]
      rfl
  have e := loop D.length 1 (List.replicate m.length 0) (Nat.le_refl _) (by simp) (by omega) (by rw [List.take_length, Int.one_mul]; exact hd.2.2)
  rw [List.take_length, show L.take D.length = L by rw [← hl, List.take_length]] at e
  rw [R_eq, e_istridesOf, hm.n, mk_ints (by omega)]
  simp only [Option.bind_some]
  rw [hD.n, wdown (by omega), e]
  rfl
/-- impl.keptOnly -/
theorem c_ikeptOnly {H : AH} {s u : Sl} {l K : List Int} (h : IS H s l) (hk : IS H u K) (hl : l.length ≤ 1048576) (hK : K.length ≤ 1048576) :
    ∃ s' H', R (.fn F.ikeptOnly) [ssc s, ssc u] H = some ⟨1, [ssc s'], H'⟩ ∧ Own H.length H' s' (keepF l K) ∧ Go.Abs.Le H H' := by
  have cl := collect (l := l) (H0 := H) (F := fun i c Hc => R (.loop F.ikeptOnly 0) [ssc u, ssc c, ssc s, isc (l.length : Int), isc (i : Int)] Hc) (fin := fun c Hc => some ⟨2, [ssc c], Hc⟩) (fun _ y => if (K.any fun z => y == z) then some y else none)
    (fun c Hc => by rw [R_eq, e_ikeptOnly_0, lt_self]; rfl)
    (fun i hi c Hc acc hle ho ha => by
      by_cases h0 : (K.any fun z => l[i] == z) = true
      · obtain ⟨s', H', e, o, l⟩ := push_le hle ho (by omega) l[i]
        refine ⟨s', H', ?_, by rw [if_pos h0]; simpa using o, l⟩
        rw [R_eq, e_ikeptOnly_0, lt_true hi, w1 hi (by omega), cond_true, (h.le hle).ldk hi, c_ihasInt (hk.le hle) hK]
        simp only [Option.bind_some, one_bool, h0, cond_true]
        rw [e]
      · refine ⟨c, Hc, ?_, by rw [if_neg h0]; simpa using ho, hle⟩
        rw [R_eq, e_ikeptOnly_0, lt_true hi, w1 hi (by omega), cond_true, (h.le hle).ldk hi, c_ihasInt (hk.le hle) hK]
        simp only [Option.bind_some, one_bool, Bool.eq_false_iff.2 h0, cond_false])
    (s0 := ⟨0, 0, 0, 0, true⟩) (H := H) (Go.Abs.Le.refl _) (Own.nil _ _ _)
  obtain ⟨s', H', e, o, l1⟩ := cl
  rw [colF_filter (fun y => K.any fun z => y == z)] at o
  refine ⟨s', H', ?_, o, l1⟩
  have e : R (.loop F.ikeptOnly 0) [ssc u, ssc ⟨0, 0, 0, 0, true⟩, ssc s, isc (l.length : Int), isc 0] H = _ := e
  rw [R_eq, e_ikeptOnly, h.n, e]
  rfl
/-- A label that is there, with its size. -/
theorem IS.dim {H : AH} {b : Sl} {L : List Int} {dm : Int → Int} (hD : IS H b (L.map dm)) {x : Int} (hf : 0 ≤ findF L x 0) {α : Type} (k : Int → Option α) : ((ixA b (findF L x 0) 1).bind fun o => (rdB H b.b).bind fun c => (intAt .i64 c o).bind k) = k (dm x) := by
  obtain ⟨j, hj⟩ : ∃ j : Nat, findF L x 0 = (j : Int) := ⟨(findF L x 0).toNat, by omega⟩
  obtain ⟨_, hjl, hjx⟩ := findF_at hj
  simp only [Nat.sub_zero] at hjl hjx
  rw [hj, hD.ldk (by simpa using hjl), List.getElem_map, hjx]
/-- impl.joinAxes, of axes whose sizes are told by one function -/
theorem c_ijoinAxes {H : AH} {a b c a' b' c' : Sl} {L M : List Int} {dm : Int → Int} (hL : IS H a L) (hD : IS H b (L.map dm)) (hM : IS H a' M) (hE : IS H b' (M.map dm)) (hs : L.length + M.length ≤ 1000) :
    ∃ s1 s2 H', R (.fn F.ijoinAxes) [tpv a b c, tpv a' b' c'] H = some ⟨1, [ssc s1, ssc s2, bsc true], H'⟩ ∧ Fr H H' [(s2, (joinL L M).map dm), (s1, joinL L M)] := by
  obtain ⟨s1, H1, e1, l1, o1⟩ := c_ijoinLabels hL hM (by omega)
  have hjl := joinL_len L M
  have hmem : ∀ x ∈ joinL L M, x ∈ L ∨ x ∈ M := fun x hx => by
    unfold joinL at hx
    rcases List.mem_append.1 hx with h | h
    · exact .inl h
    · obtain ⟨j, y, hy, e⟩ := colF_mem h
      split at e
      · cases e
      · cases e; exact .inr hy
  generalize hm : joinL L M = m at *
  have F1 : Fr H H1 [(s1, m)] := (Fr.start H).new l1 o1
  have F2 := F1.mk0 m.length
  have loop : ∀ (k i : Nat), i + k = m.length → R (.loop F.ijoinAxes 0) [ssc ⟨H1.length, 0, m.length, m.length, true⟩, ssc s1, isc (m.length : Int), isc (i : Int), tpv a b c, tpv a' b' c'] (H1 ++ [⟨ics ((m.take i).map dm ++ List.replicate k 0), .rw, 1⟩]) = some ⟨2, [], H1 ++ [⟨ics (m.map dm), .rw, 1⟩]⟩ := by
    intro k
    induction k with
    | zero =>
      intro i hi
      obtain rfl : i = m.length := by omega
      rw [R_eq, e_ijoinAxes_0, lt_self, List.take_length]
      simp
    | succ k ih =>
      intro i hi
      have hlt : i < m.length := by omega
      have lG := Go.Abs.Le.app H1 [⟨ics ((m.take i).map dm ++ List.replicate (k + 1) 0), .rw, 1⟩]
      have lH := l1.trans lG
      have hset : ((m.take i).map dm ++ List.replicate (k + 1) 0).set i (dm m[i]) = (m.take (i + 1)).map dm ++ List.replicate k 0 := by
        rw [take_snoc' hlt, List.map_append, List.set_append_right _ _ (by simp; omega)]
        have : i - ((m.take i).map dm).length = 0 := by simp; omega
        rw [this]
        simp [List.replicate_succ]
      have ea := c_iaxisOf (b := b) (c := c) (hL.le lH) (by omega) m[i]
      have eb := c_iaxisOf (b := b') (c := c') (hM.le lH) (by omega) m[i]
      rw [R_eq, e_ijoinAxes_0, lt_true hlt, w1 hlt (by omega), cond_true, (o1.is.le lG).ldk hlt, ea]
      simp only [Option.bind_some, one_int]
      rw [eb]
      simp only [Option.bind_some, one_int]
      have fin : ∀ (v : Int), v = dm m[i] → ((ixA ⟨H1.length, 0, m.length, m.length, true⟩ (i : Int) 1).bind fun o27 => (putR (H1 ++ [⟨ics ((m.take i).map dm ++ List.replicate (k + 1) 0), .rw, 1⟩]) H1.length o27 [.int .i64 v]).bind fun H28 =>
          R (.loop F.ijoinAxes 0) [ssc ⟨H1.length, 0, m.length, m.length, true⟩, ssc s1, isc (m.length : Int), isc ((i + 1 : Nat) : Int), tpv a b c, tpv a' b' c'] H28) = some ⟨2, [], H1 ++ [⟨ics (m.map dm), .rw, 1⟩]⟩ := fun v hv => by
        subst hv
        rw [st_own0 app_get hlt (by simp; omega), app_set, hset]
        exact ih (i + 1) (by omega)
      by_cases ha : 0 ≤ findF L m[i] 0
      · rw [decide_eq_true (show findF L m[i] 0 ≥ 0 from ha)]
        simp only [cond_true]
        by_cases hb : 0 ≤ findF M m[i] 0
        · rw [decide_eq_true (show findF M m[i] 0 ≥ 0 from hb)]
          simp only [cond_true]
          rw [(hD.le lH).dim ha, (hE.le lH).dim hb, ne_i]
          simp only [cond_false, Option.bind_some, Nat.beq, cond_true]
          rw [(hD.le lH).dim ha]
          exact fin _ rfl
        · rw [decide_eq_false (show ¬ findF M m[i] 0 ≥ 0 from hb)]
          simp only [cond_false, Option.bind_some, Nat.beq, cond_true]
          rw [(hD.le lH).dim ha]
          exact fin _ rfl
      · have hb : 0 ≤ findF M m[i] 0 := by
          rcases hmem m[i] (List.getElem_mem hlt) with h | h
          · exact absurd ((findF_mem L m[i] 0).2 h) ha
          · exact (findF_mem M m[i] 0).2 h
        rw [decide_eq_false (show ¬ findF L m[i] 0 ≥ 0 from ha)]
        simp only [cond_false, Option.bind_some, Nat.beq, cond_true]
        rw [(hE.le lH).dim hb]
        exact fin _ rfl
  have e2 := loop m.length 0 (by omega)
  have e2 : R (.loop F.ijoinAxes 0) [ssc ⟨H1.length, 0, m.length, m.length, true⟩, ssc s1, isc (m.length : Int), isc 0, tpv a b c, tpv a' b' c'] (H1 ++ [⟨ics (List.replicate m.length 0), .rw, 1⟩]) = _ := e2
  refine ⟨s1, ⟨H1.length, 0, m.length, m.length, true⟩, H1 ++ [⟨ics (m.map dm), .rw, 1⟩], ?_, ?_⟩
  · rw [R_eq, e_ijoinAxes, e1]
    simp only [Option.bind_some, one_sl]
    rw [o1.n, mk_ints (by omega)]
    simp only [Option.bind_some]
    rw [e2]
    rfl
  · have n := new_app H1 (m.map dm)
    unfold rowAt at n
    rw [List.length_map] at n
    exact F1.newN n
/-- A joined row of sizes is not large. -/
theorem prd_filter {dm : Int → Int} (p : Int → Bool) : ∀ l : List Int, (∀ x ∈ l, 1 ≤ dm x) → 1 ≤ prd ((l.filter p).map dm) ∧ prd ((l.filter p).map dm) ≤ prd (l.map dm)
  | [], _ => by simp [prd]
  | x :: l, h => by
    have hx := h x List.mem_cons_self
    obtain ⟨h1, h2⟩ := prd_filter p l fun y hy => h y (List.mem_cons_of_mem _ hy)
    have h3 : 1 * prd (l.map dm) ≤ dm x * prd (l.map dm) := Int.mul_le_mul_of_nonneg_right hx (by omega)
    have h4 : 1 * 1 ≤ dm x * prd ((l.filter p).map dm) := Int.mul_le_mul hx h1 (by omega) (by omega)
    have h5 : dm x * prd ((l.filter p).map dm) ≤ dm x * prd (l.map dm) := Int.mul_le_mul_of_nonneg_left h2 (by omega)
    simp only [List.filter_cons]
    split
    · simp only [List.map_cons, prd]; exact ⟨by omega, h5⟩
    · simp only [List.map_cons, prd]; exact ⟨h1, by omega⟩
theorem prd_join {L M : List Int} {dm : Int → Int} (hL : ∀ x ∈ L, 1 ≤ dm x) (hM : ∀ x ∈ M, 1 ≤ dm x) (h1 : prd (L.map dm) ≤ 4096) (h2 : prd (M.map dm) ≤ 4096) : prd ((joinL L M).map dm) ≤ 16777216 := by
  have e : joinL L M = L ++ M.filter fun x => !(L.any fun y => x == y) := by
    unfold joinL
    congr 1
    have := colF_filter (fun x => !(L.any fun y => x == y)) M 0
    rw [← this]
    congr 1
    funext i x
    cases (L.any fun y => x == y) <;> rfl
  obtain ⟨g1, g2⟩ := prd_filter (dm := dm) (fun x => !(L.any fun y => x == y)) M hM
  have hp := prd_pos (a := L.map dm) fun d hd => by
    obtain ⟨x, hx, rfl⟩ := List.mem_map.1 hd
    exact hL x hx
  rw [e, List.map_append, prd_app]
  have : prd (L.map dm) * prd ((M.filter fun x => !(L.any fun y => x == y)).map dm) ≤ 4096 * 4096 := Int.mul_le_mul h1 (by omega) (by omega) (by omega)
  omega
end Go.Abs
