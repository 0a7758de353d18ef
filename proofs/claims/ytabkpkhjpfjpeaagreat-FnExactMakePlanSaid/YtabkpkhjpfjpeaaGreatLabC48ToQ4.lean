/- Part of the proof of FnExactMakePlan: that for every input the law answers true and leaves what it reads as it was. Conditions: none beyond the given statement. -/
import Derived.Test.YtabkpkhjpfjpeaaGreatLabC1ToC47
set_option linter.all false
/- Contracts: orders (impl). -/
namespace Go.Abs
set_option linter.all false
set_option maxRecDepth 10000

/-- impl.follow -/
theorem c_follow {H0 H : AH} {bs : Nat} {D op : List Int} {so sl : Sl} {next : Nat} {v : List LE} (h : OS H0 H bs D op so sl next v) (hs : SmallV v) (ho : op.length ≤ 1024) (hnx : next ≤ 4096) (a b : Int) :
    ((placeF v a 0 < 0 ∨ placeF v b 0 < 0 ∨ a ≥ b) ∧ R (.fn F.x__impl_orderState__follow) [.sc (.hp bs 0), .agg [.int .i64 a, .int .i64 b]] H = some ⟨1, [bsc false], H⟩) ∨
    (∃ i j : Nat, placeF v a 0 = i ∧ placeF v b 0 = j ∧ a < b ∧ i < v.length ∧ j < v.length ∧ ∃ sl' s H', R (.fn F.x__impl_orderState__follow) [.sc (.hp bs 0), .agg [.int .i64 a, .int .i64 b]] H = some ⟨1, [bsc true], H'⟩ ∧ OS H0 H' bs D op so sl' (next + 1) (stepV op v next i j s)) := by
  have pa := c_place h hs.1 a
  have pb := c_place h hs.1 b
  have hst : R (.fn F.x__impl_orderState__follow) [.sc (.hp bs 0), .agg [.int .i64 a, .int .i64 b]] H = cond (decide (placeF v a 0 < 0)) (some ⟨1, [bsc false], H⟩) (cond (decide (placeF v b 0 < 0)) (some ⟨1, [bsc false], H⟩) (cond (decide (a ≥ b)) (some ⟨1, [bsc false], H⟩)
      ((R (.fn F.x__impl_orderState__contract) [.sc (.hp bs 0), isc (placeF v a 0), isc (placeF v b 0)] H).bind fun r9 => (oneP r9.vs).bind fun p10 => p10.agg?.bind fun l11 => cond (decide (l11.length = 2)) ((intAt .i64 l11 0).bind fun n12 => (intAt .i64 l11 1).bind fun n13 => some ⟨1, [bsc true], r9.H⟩) none))) := by
    rw [R_eq, e_x__impl_orderState__follow, pa]
    simp only [Option.bind_some, one_int]
    rw [pb]
    simp only [Option.bind_some, one_int]
  by_cases h1 : placeF v a 0 < 0
  · exact .inl ⟨.inl h1, by rw [hst, decide_eq_true h1]; rfl⟩
  by_cases h2 : placeF v b 0 < 0
  · exact .inl ⟨.inr (.inl h2), by rw [hst, decide_eq_false h1, decide_eq_true h2]; rfl⟩
  by_cases h3 : a ≥ b
  · exact .inl ⟨.inr (.inr h3), by rw [hst, decide_eq_false h1, decide_eq_false h2, decide_eq_true h3]; rfl⟩
  have ra := placeF_lo v a 0
  have rb := placeF_lo v b 0
  obtain ⟨i, hi⟩ : ∃ i : Nat, placeF v a 0 = i := ⟨(placeF v a 0).toNat, by omega⟩
  obtain ⟨j, hj⟩ : ∃ j : Nat, placeF v b 0 = j := ⟨(placeF v b 0).toNat, by omega⟩
  have hil : i < v.length := by omega
  have hjl : j < v.length := by omega
  obtain ⟨sl', s, H', e, O⟩ := c_contract h hs ho hnx hil hjl
  refine .inr ⟨i, j, hi, hj, by omega, hil, hjl, sl', s, H', ?_, O⟩
  rw [hst, decide_eq_false h1, decide_eq_false h2, decide_eq_false h3, hi, hj]
  simp only [cond_false]
  rw [e]
  simp only [Option.bind_some, o_ii]

structure Sp where
  a : Int
  b : Int
def S2 (H : AH) (s : Sl) (ps : List Sp) : Prop := s.n = ps.length ∧ s.n ≤ s.c ∧ (ps = [] ∨ ∃ cs, rdB H s.b = some cs ∧ ∀ (i : Nat) g, ps[i]? = some g → cs[s.o + i * 2]? = some (.int .i64 g.a) ∧ cs[s.o + i * 2 + 1]? = some (.int .i64 g.b))
theorem S2.le {H H' : AH} (h : Go.Abs.Le H H') {s : Sl} {ps : List Sp} (k : S2 H s ps) : S2 H' s ps := ⟨k.1, k.2.1, k.2.2.imp id fun ⟨cs, h1, h2⟩ => ⟨cs, h.rdB h1, h2⟩⟩
theorem S2.ld {H : AH} {s : Sl} {ps : List Sp} (h : S2 H s ps) {i : Nat} (hi : i < ps.length) {α : Type} (k : Int → Int → Option α) :
    ((ixA s (i : Int) 2).bind fun o => (rdB H s.b).bind fun q => (intAt .i64 q o).bind fun x => (intAt .i64 q (o + 1)).bind fun y => k x y) = k ps[i].a ps[i].b := by
  obtain ⟨h1, h2, e | ⟨cs, hc, hg⟩⟩ := h
  · rw [e] at hi; simp at hi
  · obtain ⟨g1, g2⟩ := hg i _ (List.getElem?_eq_getElem hi)
    rw [ixA_nat (by omega)]
    simp only [Option.bind_some, hc, intAt_get g1, intAt_get g2]

/-- All labels that are there. -/
def totV (v : List LE) : Nat := (v.map fun t => t.l.length).sum
theorem totV_mem {v : List LE} {t : LE} (h : t ∈ v) : t.l.length ≤ totV v := by
  unfold totV
  induction v with
  | nil => simp at h
  | cons x v ih =>
    simp only [List.map_cons, List.sum_cons]
    rcases List.mem_cons.1 h with rfl | h
    · omega
    · have := ih h; omega
theorem dropF_ge (i j : Nat) : ∀ (v : List LE) (k : Nat), i < k → j < k → dropF i j v k = v
  | [], _, _, _ => rfl
  | t :: v, k, h1, h2 => by
    unfold dropF
    have a1 : (k != i) = true := bne_iff_ne.2 (by omega)
    have a2 : (k != j) = true := bne_iff_ne.2 (by omega)
    rw [a1, a2, dropF_ge i j v (k + 1) (by omega) (by omega)]
    rfl
theorem dropF_one (i j : Nat) : ∀ (v : List LE) (k : Nat) (hk : i < k) (hj : k ≤ j) (hl : j - k < v.length), totV (dropF i j v k) + v[j - k].l.length = totV v ∧ (dropF i j v k).length + 1 = v.length
  | [], k, _, _, hl => by simp at hl
  | t :: v, k, hk, hj, hl => by
    have a1 : (k != i) = true := bne_iff_ne.2 (by omega)
    by_cases e : k = j
    · subst e
      unfold dropF
      have a2 : (k != k) = false := by simp
      rw [a1, a2]
      simp only [Bool.and_false, Bool.false_eq_true, if_false, Nat.sub_self, List.getElem_cons_zero]
      rw [dropF_ge i k v (k + 1) (by omega) (by omega)]
      simp [totV]; omega
    · unfold dropF
      have a2 : (k != j) = true := bne_iff_ne.2 e
      rw [a1, a2]
      simp only [Bool.and_self, if_true]
      have hs : j - k = (j - (k + 1)) + 1 := by omega
      obtain ⟨g1, g2⟩ := dropF_one i j v (k + 1) (by omega) (by omega) (by simp at hl; omega)
      have hget : (t :: v)[j - k] = v[j - (k + 1)]'(by simp at hl; omega) := by simp [hs]
      rw [hget]
      simp only [totV, List.map_cons, List.sum_cons, List.length_cons] at g1 ⊢
      omega
theorem dropF_comm (i j : Nat) : ∀ (v : List LE) (k : Nat), dropF i j v k = dropF j i v k
  | [], _ => rfl
  | t :: v, k => by
    unfold dropF
    rw [dropF_comm i j v (k + 1), Bool.and_comm]
theorem dropF_two (i j : Nat) : ∀ (v : List LE) (k : Nat) (hi : k ≤ i) (hij : i < j) (hl : j - k < v.length), totV (dropF i j v k) + (v[i - k]'(by omega)).l.length + v[j - k].l.length = totV v ∧ (dropF i j v k).length + 2 = v.length
  | [], k, _, _, hl => by simp at hl
  | t :: v, k, hi, hij, hl => by
    by_cases e : k = i
    · subst e
      unfold dropF
      have a1 : (k != k) = false := by simp
      rw [a1]
      simp only [Bool.false_and, Bool.false_eq_true, if_false, Nat.sub_self, List.getElem_cons_zero]
      have hs : j - k = (j - (k + 1)) + 1 := by omega
      obtain ⟨g1, g2⟩ := dropF_one k j v (k + 1) (by omega) (by omega) (by simp at hl; omega)
      have hget : (t :: v)[j - k] = v[j - (k + 1)]'(by simp at hl; omega) := by simp [hs]
      rw [hget]
      simp only [totV, List.map_cons, List.sum_cons, List.length_cons] at g1 ⊢
      omega
    · unfold dropF
      have a1 : (k != i) = true := bne_iff_ne.2 e
      have a2 : (k != j) = true := bne_iff_ne.2 (by omega)
      rw [a1, a2]
      simp only [Bool.and_self, if_true]
      have hs : j - k = (j - (k + 1)) + 1 := by omega
      have hs2 : i - k = (i - (k + 1)) + 1 := by omega
      obtain ⟨g1, g2⟩ := dropF_two i j v (k + 1) (by omega) hij (by simp at hl; omega)
      have hget : (t :: v)[j - k] = v[j - (k + 1)]'(by simp at hl; omega) := by simp [hs]
      have hget2 : (t :: v)[i - k]'(by omega) = v[i - (k + 1)]'(by simp at hl; omega) := by simp [hs2]
      rw [hget, hget2]
      simp only [totV, List.map_cons, List.sum_cons, List.length_cons] at g1 ⊢
      omega
theorem resL_len (op : List Int) {v : List LE} {i j : Nat} (hi : i < v.length) (hj : j < v.length) : (resL op v i j).length ≤ v[i].l.length + v[j].l.length := by
  unfold resL
  rw [getD_le hi, getD_le hj]
  exact Nat.le_trans colF_len (joinL_len _ _)
theorem stepV_tot (op : List Int) {v : List LE} {next i j : Nat} (s : Sl) (hi : i < v.length) (hj : j < v.length) (hij : i ≠ j) : totV (stepV op v next i j s) ≤ totV v ∧ (stepV op v next i j s).length + 1 = v.length := by
  have hr := resL_len op hi hj
  have hs : totV (stepV op v next i j s) = totV (dropF i j v 0) + (resL op v i j).length := by simp [stepV, totV]
  have hl : (stepV op v next i j s).length = (dropF i j v 0).length + 1 := by simp [stepV]
  rcases Nat.lt_or_gt_of_ne hij with h | h
  · obtain ⟨g1, g2⟩ := dropF_two i j v 0 (by omega) h (by omega)
    simp only [Nat.sub_zero] at g1
    omega
  · obtain ⟨g1, g2⟩ := dropF_two j i v 0 (by omega) h (by omega)
    rw [dropF_comm] at g1 g2
    simp only [Nat.sub_zero] at g1
    omega
theorem placeF_at : ∀ (v : List LE) (n : Int) (k i : Nat), placeF v n k = (i : Int) → ∃ h : i - k < v.length, k ≤ i ∧ v[i - k].n = n
  | [], n, k, i, h => by simp [placeF] at h
  | x :: v, n, k, i, h => by
    unfold placeF at h
    split at h
    · rename_i he
      have : i = k := by omega
      subst this
      exact ⟨by simp, Nat.le_refl _, by simpa using he⟩
    · obtain ⟨h1, h2, h3⟩ := placeF_at v n (k + 1) i h
      have hs : i - k = (i - (k + 1)) + 1 := by omega
      exact ⟨by simp; omega, by omega, by simp [hs, h3]⟩
theorem placeF_neg : ∀ (v : List LE) (n : Int) (k : Nat), placeF v n k < 0 ↔ n ∉ v.map (·.n)
  | [], n, k => by simp [placeF]
  | x :: v, n, k => by
    unfold placeF
    split
    · rename_i he
      have : x.n = n := by simpa using he
      simp [this]
    · rename_i he
      have : ¬ x.n = n := by simpa using he
      rw [placeF_neg v n (k + 1)]
      simp [Ne.symm this]

/-- An order is followed: by the numbers that are there. -/
def orderN : List Int → Int → List Sp → Bool
  | _, _, [] => true
  | ns, nx, p :: ps => if p.a ∈ ns ∧ p.b ∈ ns ∧ p.a < p.b then orderN (ns.filter (fun x => x != p.a && x != p.b) ++ [nx]) (nx + 1) ps else false
theorem dropF_nums {i j : Nat} {a b : Int} : ∀ (v : List LE) (k : Nat), (v.map (·.n)).Nodup → (∀ (m : Nat) t, v[m]? = some t → ((m + k = i ↔ t.n = a) ∧ (m + k = j ↔ t.n = b))) → (dropF i j v k).map (·.n) = (v.map (·.n)).filter (fun x => x != a && x != b)
  | [], _, _, _ => rfl
  | t :: v, k, hd, h => by
    obtain ⟨h1, h2⟩ := h 0 t (by simp)
    have ih := dropF_nums (i := i) (j := j) (a := a) (b := b) v (k + 1) (by simp at hd; exact hd.2) (fun m u hu => by
      have := h (m + 1) u (by simpa using hu)
      have e : m + 1 + k = m + (k + 1) := by omega
      rw [e] at this; exact this)
    unfold dropF
    rw [List.map_cons, List.filter_cons]
    have e1 : (k != i) = (t.n != a) := by
      rw [Bool.eq_iff_iff, bne_iff_ne, bne_iff_ne]
      rw [Nat.zero_add] at h1
      exact not_congr h1
    have e2 : (k != j) = (t.n != b) := by
      rw [Bool.eq_iff_iff, bne_iff_ne, bne_iff_ne]
      rw [Nat.zero_add] at h2
      exact not_congr h2
    rw [e1, e2]
    split
    · rw [List.map_cons, ih]
    · exact ih
theorem nodup_at {v : List LE} (hd : (v.map (·.n)).Nodup) {i : Nat} (hi : i < v.length) {a : Int} (ha : v[i].n = a) (m : Nat) (t : LE) (ht : v[m]? = some t) : m = i ↔ t.n = a := by
  constructor
  · intro e; subst e
    rw [List.getElem?_eq_getElem hi] at ht
    cases ht; exact ha
  · intro e
    obtain ⟨hm, rfl⟩ := List.getElem?_eq_some_iff.1 ht
    rw [List.Nodup, List.pairwise_iff_getElem] at hd
    rcases Nat.lt_trichotomy m i with h | h | h
    · have := hd m i (by simpa using hm) (by simpa using hi) h
      simp [ha, e] at this
    · exact h
    · have := hd i m (by simpa using hi) (by simpa using hm) h
      simp [ha, e] at this
/-- impl.OrderOk: the steps -/
theorem c_iOrderOk_0 {H0 : AH} {bs : Nat} {D op : List Int} {so sp : Sl} {ps : List Sp} (hp : S2 H0 sp ps) (hpl : ps.length ≤ 1024) (ho : op.length ≤ 1024) :
    ∀ (k i : Nat) (H : AH) (sl : Sl) (next : Nat) (v : List LE), i + k = ps.length → OS H0 H bs D op so sl next v → v.length ≤ 1024 → totV v ≤ 1000 → next ≤ 2048 + i → (v.map (·.n)).Nodup → (∀ t ∈ v, t.n < (next : Int)) →
      ∃ H', R (.loop F.iOrderOk 0) [.sc (.hp bs 0), ssc sp, isc (ps.length : Int), isc (i : Int)] H = cond (orderN (v.map (·.n)) next (ps.drop i)) (some ⟨2, [], H'⟩) (some ⟨1, [bsc false], H'⟩) ∧ Go.Abs.Le H0 H'
  | 0, i, H, sl, next, v, hi, hO, hv, ht, hn, hd, hx => by
    obtain rfl : i = ps.length := by omega
    refine ⟨H, ?_, hO.fr.le⟩
    rw [R_eq, e_iOrderOk_0, lt_self]
    simp [orderN]
  | k + 1, i, H, sl, next, v, hi, hO, hv, ht, hn, hd, hx => by
    have hlt : i < ps.length := by omega
    have hsv : SmallV v := ⟨hv, fun t h => by have := totV_mem h; omega⟩
    rw [List.drop_eq_getElem_cons hlt]
    simp only [orderN]
    rcases c_follow hO hsv ho (by omega) ps[i].a ps[i].b with ⟨hbad, e⟩ | ⟨p, q, hpa, hqb, hab, hpl', hql', sl', s, H', e, O⟩
    · have hno : ¬ (ps[i].a ∈ v.map (·.n) ∧ ps[i].b ∈ v.map (·.n) ∧ ps[i].a < ps[i].b) := by
        rintro ⟨h1, h2, h3⟩
        rcases hbad with h | h | h
        · exact (placeF_neg v _ 0).1 h h1
        · exact (placeF_neg v _ 0).1 h h2
        · omega
      refine ⟨H, ?_, hO.fr.le⟩
      rw [if_neg hno, R_eq, e_iOrderOk_0, lt_true hlt, w1 hlt (by omega), cond_true, (hp.le hO.fr.le).ld hlt, e]
      simp only [Option.bind_some, one_bool, Bool.not_false, cond_true, cond_false]
    · obtain ⟨hp1, _, hp2⟩ := placeF_at v _ 0 p hpa
      obtain ⟨hq1, _, hq2⟩ := placeF_at v _ 0 q hqb
      simp only [Nat.sub_zero] at hp2 hq2
      have hpq : p ≠ q := fun e => by subst e; omega
      have hyes : ps[i].a ∈ v.map (·.n) ∧ ps[i].b ∈ v.map (·.n) ∧ ps[i].a < ps[i].b := ⟨List.mem_map.2 ⟨v[p], List.getElem_mem hpl', hp2⟩, List.mem_map.2 ⟨v[q], List.getElem_mem hql', hq2⟩, hab⟩
      obtain ⟨g1, g2⟩ := stepV_tot op (next := next) s hpl' hql' hpq
      have hnums : (stepV op v next p q s).map (·.n) = (v.map (·.n)).filter (fun x => x != ps[i].a && x != ps[i].b) ++ [(next : Int)] := by
        unfold stepV
        rw [List.map_append, dropF_nums v 0 hd fun m t hm => ⟨by rw [Nat.add_zero]; exact nodup_at hd hpl' hp2 m t hm, by rw [Nat.add_zero]; exact nodup_at hd hql' hq2 m t hm⟩]
        rfl
      have hd' : ((stepV op v next p q s).map (·.n)).Nodup := by
        rw [hnums, List.nodup_append]
        refine ⟨hd.filter _, by simp, fun x hx1 y hy e => ?_⟩
        simp at hy
        have := (List.mem_filter.1 hx1).1
        obtain ⟨t, ht1, ht2⟩ := List.mem_map.1 this
        have := hx t ht1
        omega
      have hx' : ∀ t ∈ stepV op v next p q s, t.n < ((next + 1 : Nat) : Int) := fun t htm => by
        unfold stepV at htm
        rcases List.mem_append.1 htm with h | h
        · have := hx t ((dropF_sub p q v 0).subset h); omega
        · simp at h; subst h; show (next : Int) < _; omega
      obtain ⟨H2, e2, l2⟩ := c_iOrderOk_0 hp hpl ho k (i + 1) H' sl' (next + 1) (stepV op v next p q s) (by omega) O (by omega) (by omega) (by omega) hd' hx'
      refine ⟨H2, ?_, l2⟩
      rw [if_pos hyes, R_eq, e_iOrderOk_0, lt_true hlt, w1 hlt (by omega), cond_true, (hp.le hO.fr.le).ld hlt, e]
      simp only [Option.bind_some, one_bool, Bool.not_true, cond_false]
      rw [e2, hnums]
      rfl
end Go.Abs
/- Contracts: orders: the start (impl); the reference's check; they agree. -/
namespace Go.Abs
set_option linter.all false
set_option maxRecDepth 10000

theorem zc_os : zc P Y.timpl_orderState = ics (List.replicate 100 0) ++ [.sl ⟨0, 0, 0, 0, true⟩, .sl ⟨0, 0, 0, 0, true⟩, .int .i64 0] := by kernel_rfl
theorem fill_os {X : List Sc} (hX : X.length = 100) (so : Sl) (m : Int) : fillB [(0, 100), (100, 1), (101, 1), (102, 1)] (zc P Y.timpl_orderState) [(0, .agg X), (1, .sc (.sl so)), (3, .sc (.int .i64 m))] = some (X ++ [.sl so, .sl ⟨0, 0, 0, 0, true⟩, .int .i64 m]) := by
  rw [zc_os]
  have hz : (ics (List.replicate 100 0)).length = 100 := by simp
  have h0 : setAll (ics (List.replicate 100 0) ++ [Sc.sl ⟨0, 0, 0, 0, true⟩, Sc.sl ⟨0, 0, 0, 0, true⟩, Sc.int .i64 0]) 0 X = X ++ [Sc.sl ⟨0, 0, 0, 0, true⟩, Sc.sl ⟨0, 0, 0, 0, true⟩, Sc.int .i64 0] := by
    rw [setAll_all _ _ _ (by simp only [List.length_append, hz, hX, List.length_cons, List.length_nil]; omega), hX]
    simp only [List.take_zero, List.nil_append, Nat.zero_add]
    rw [List.drop_append, hz, List.drop_eq_nil_of_le (by omega)]
    simp
  have h1 : (X ++ [Sc.sl ⟨0, 0, 0, 0, true⟩, Sc.sl ⟨0, 0, 0, 0, true⟩, Sc.int .i64 0]).set 100 (.sl so) = X ++ [Sc.sl so, Sc.sl ⟨0, 0, 0, 0, true⟩, Sc.int .i64 0] := by
    rw [List.set_append_right _ _ (by omega), hX]; rfl
  have h2 : (X ++ [Sc.sl so, Sc.sl ⟨0, 0, 0, 0, true⟩, Sc.int .i64 0]).set 102 (.int .i64 m) = X ++ [Sc.sl so, Sc.sl ⟨0, 0, 0, 0, true⟩, Sc.int .i64 m] := by
    rw [List.set_append_right _ _ (by omega), hX]; rfl
  have b1 : Nat.beq X.length 100 = true := by rw [hX]; rfl
  have b2 : ∀ l : List Sc, l.length = 103 → Nat.ble (0 + 100) l.length = true := fun l h => by rw [h]; rfl
  have b3 : ∀ l : List Sc, l.length = 103 → Nat.ble (100 + 1) l.length = true := fun l h => by rw [h]; rfl
  have b4 : ∀ l : List Sc, l.length = 103 → Nat.ble (102 + 1) l.length = true := fun l h => by rw [h]; rfl
  have l1 : (ics (List.replicate 100 0) ++ [Sc.sl ⟨0, 0, 0, 0, true⟩, Sc.sl ⟨0, 0, 0, 0, true⟩, Sc.int .i64 0]).length = 103 := by simp only [List.length_append, hz, List.length_cons, List.length_nil]
  have l2 : ∀ a b c : Sc, (X ++ [a, b, c]).length = 103 := fun a b c => by simp only [List.length_append, hX, List.length_cons, List.length_nil]
  unfold fillB
  simp only [fillC, List.getElem?_cons_zero, List.getElem?_cons_succ, PV.cells, b1, b2 _ l1, Bool.and_self, if_true, h0, List.length_cons, List.length_nil, Nat.beq, b3 _ (l2 _ _ _), setAll, h1, b4 _ (l2 _ _ _), h2]

/-- impl.startState: the tensors -/
theorem c_istartState_0 {H0 : AH} {bs : Nat} {D op : List Int} {so st : Sl} {ts : List Tn} (hT : T3 H0 st ts) (hl : ts.length ≤ 12) (htl : ∀ t ∈ ts, t.L.length ≤ 12) :
    ∀ (k i : Nat) (H : AH) (sl : Sl) (v : List LE), i + k = ts.length → OS H0 H bs D op so sl ts.length v → v.map (fun t => (t.n, t.l)) = ((ts.take i).zipIdx).map (fun x => ((x.2 : Int), x.1.L)) →
      ∃ sl' v' H', R (.loop F.istartState 0) [.sc (.hp bs 0), ssc st, isc (ts.length : Int), isc (i : Int)] H = some ⟨2, [], H'⟩ ∧ OS H0 H' bs D op so sl' ts.length v' ∧ v'.map (fun t => (t.n, t.l)) = (ts.zipIdx).map (fun x => ((x.2 : Int), x.1.L))
  | 0, i, H, sl, v, hi, hO, hv => by
    obtain rfl : i = ts.length := by omega
    rw [List.take_of_length_le (Nat.le_refl _)] at hv
    exact ⟨sl, v, H, by rw [R_eq, e_istartState_0, lt_self]; rfl, hO, hv⟩
  | k + 1, i, H, sl, v, hi, hO, hv => by
    have hlt : i < ts.length := by omega
    obtain ⟨a1, a2, a3⟩ := hO.at0
    have hbl : bs < H.length := (List.getElem?_eq_some_iff.1 hO.blk).1
    have hvl : v.length = i := by
      have := congrArg List.length hv
      simp at this; omega
    obtain ⟨a, b, c, hTt, hk⟩ := (hT.le hO.fr.le).ld hlt
    have hle1 := Go.Abs.Le.app H [resB]
    obtain ⟨s19, H1, e1, l1, o1⟩ := c_icopyInts (hTt.L.le hle1) (by have := htl _ (List.getElem_mem hlt); omega)
    have hle := hle1.trans l1
    have hres : H1[H.length]? = some resB := by rw [l1.get _ (by simp)]; simp
    have hl1 : H.length < H1.length := by have := l1.len; simp at this; omega
    have htake : H1.take H.length = (reserve H 1).take H.length := List.ext_getElem? fun d => by
      rw [List.getElem?_take, List.getElem?_take]
      split
      · rename_i hd
        rw [l1.get _ (by simp; omega)]; rfl
      · rfl
    have hset : ∀ d, d ≠ H.length → (H1.set H.length ⟨[.int .i64 (i : Int), .sl s19], .rw, 2⟩)[d]? = H1[d]? := fun d hd => List.getElem?_set_ne (Ne.symm hd)
    have hH0 := hO.fr.le.len
    -- the frame with the new row
    have F1 : Fr H0 H1 ((s19, ts[i].L) :: lrows v) := (hO.fr.ext hle1).new l1 o1
    have F2 : Fr H0 (H1.set H.length ⟨[.int .i64 (i : Int), .sl s19], .rw, 2⟩) ((s19, ts[i].L) :: lrows v) := ⟨F1.le.set hH0, F1.rows.frame fun p hp hne => hset _ fun e => by
      have := (F1.rows.own p hp).blk' hne
      rw [e, hres] at this; simp [resB] at this⟩
    have O1 := hO.out.le hle
    have O2 : CO 2 H0.length (H1.set H.length ⟨[.int .i64 (i : Int), .sl s19], .rw, 2⟩) sl (lcells v) := O1.keep fun hc => hset _ (by have := hO.out.lt hc; omega)
    have hsn : sl.n = v.length := hO.out.lr.n
    obtain ⟨sl', H3, e3, O3, n3, l3, f3⟩ := O2.push (by_ := 32) (new := [.int .i64 (i : Int), .sl s19]) (by simp; omega) (by omega) (by omega) rfl (by rw [hsn, hvl]; unfold most; omega)
    have keep3 : ∀ d, d < H.length → (d ≠ sl.b ∨ lcells v = []) → H3[d]? = H[d]? := fun d hd h => by
      rw [f3 d (by simp; omega) h, hset d (by omega), hle.get d hd]
    have hbs : bs ≠ sl.b ∨ lcells v = [] := by
      rcases hO.out.blk with ⟨e, _⟩ | ⟨_, _, hb⟩
      · exact .inr e
      · refine .inl fun e => ?_
        rw [← e, hO.blk] at hb
        simp at hb
    have hb3 : H3[bs]? = some ⟨ics D ++ [.sl so, .sl sl, .int .i64 (ts.length : Int)], .rw, 103⟩ := by rw [keep3 bs hbl hbs]; exact hO.blk
    have hD : (ics D).length = 100 := by simp [hO.dl]
    have hp1 : putR H3 bs (0 + 101) [.sl sl'] = some (H3.set bs ⟨ics D ++ [.sl so, .sl sl', .int .i64 (ts.length : Int)], .rw, 103⟩) := by
      rw [put_cell hb3 (by simp [hO.dl])]
      congr 4
      rw [List.set_append_right _ _ (by omega), hD]; rfl
    -- rows stay
    have hrow3 : ∀ p ∈ (s19, ts[i].L) :: lrows v, p.2 ≠ [] → H3[p.1.b]? = (H1.set H.length ⟨[.int .i64 (i : Int), .sl s19], .rw, 2⟩)[p.1.b]? := fun p hp hne => f3 _ (F2.rows.lt p hp hne) (by
      by_cases e : lcells v = []
      · exact .inr e
      · exact .inl (O2.ne e (by omega) (F2.rows.own p hp) hne))
    have F3 : Fr H0 H3 ((s19, ts[i].L) :: lrows v) := ⟨⟨by simp at l3; omega, fun d hd => by
      rw [keep3 d (by omega) (by
        by_cases e : lcells v = []
        · exact .inr e
        · rcases hO.out.blk with ⟨e', _⟩ | ⟨_, hlo, _⟩
          · exact absurd e' e
          · exact .inl (by omega))]
      exact hO.fr.le.get d hd⟩, F2.rows.frame hrow3⟩
    have hOne : ∀ {s : Sl} {l : List Int}, Own H0.length H3 s l → l ≠ [] → s.b ≠ bs := fun ho hl e => by
      have := ho.blk' hl
      rw [e, hb3] at this
      simp at this
    have hO4 : OS H0 (H3.set bs ⟨ics D ++ [.sl so, .sl sl', .int .i64 (ts.length : Int)], .rw, 103⟩) bs D op so sl' ts.length (v ++ [⟨(i : Int), s19, ts[i].L⟩]) := by
      have F3' : Fr H0 H3 (lrows (v ++ [⟨(i : Int), s19, ts[i].L⟩])) := F3.perm (by unfold lrows; rw [List.map_append]; exact List.perm_append_comm)
      refine ⟨⟨F3'.le.set hO.lo, F3'.rows.frame fun p hp hne => List.getElem?_set_ne (Ne.symm (hOne (F3'.rows.own p hp) hne))⟩, ?_, set_get hb3, hO.lo, hO.dl, hO.op⟩
      rw [lcells_app]
      refine O3.keep fun hc => List.getElem?_set_ne fun e => ?_
      rcases O3.blk with ⟨e', _⟩ | ⟨_, _, hb⟩
      · exact absurd e' hc
      · rw [← e, hb3] at hb
        simp at hb
    obtain ⟨sl2, v2, H', e5, O5, v5⟩ := c_istartState_0 hT hl htl k (i + 1) _ sl' (v ++ [⟨(i : Int), s19, ts[i].L⟩]) (by omega) hO4 (by
      rw [List.map_append, hv, take_snoc_any hlt, List.zipIdx_append, List.map_append]
      simp; omega)
    refine ⟨sl2, v2, H', ?_, O5, v5⟩
    have hrd : rdB ((reserve H 1).set (H.length + 0) deadB) bs = some (ics D ++ [.sl so, .sl sl, .int .i64 (ts.length : Int)]) := by
      unfold rdB
      rw [List.getElem?_set_ne (by omega), reserve1, hle1.get bs hbl, hO.blk]; rfl
    rw [R_eq, e_istartState_0, lt_true hlt, w1 hlt (by omega), cond_true, hk, decide_eq_true hbl, cond_true, hrd]
    simp only [Option.bind_some, a2]
    rw [reserve1, e1]
    simp only [Option.bind_some, one_sl]
    rw [reserve1] at htake
    rw [decide_eq_true htake, cond_true, Nat.add_zero, newAt_ok hres (by omega)]
    simp only [Option.bind_some]
    rw [rng_new (cs := [.int .i64 (i : Int), .sl s19]) (z := 2) (m := 1 * 2) (by simp [hl1]) rfl (by omega)]
    simp only [Option.bind_some]
    rw [e3]
    simp only [Option.bind_some]
    rw [hp1]
    exact e5

/-- impl.startState, of a network -/
theorem c_istartState {H : AH} {s u : Sl} {n : Nw} (h : NS H s u n) (hn : netB n = true) :
    ∃ bs D sl v H', R (.fn F.istartState) [npv n.r s u] H = some ⟨1, [.sc (.hp bs 0)], H'⟩ ∧ OS H H' bs D n.op u sl n.ts.length v ∧ v.map (fun t => (t.n, t.l)) = (n.ts.zipIdx).map (fun x => ((x.2 : Int), x.1.L)) ∧ dimTs (List.replicate 100 0) n.ts = some D := by
  simp only [netB, Bool.and_eq_true, decide_eq_true_eq] at hn
  obtain ⟨⟨⟨h1, h2⟩, h3⟩, h4⟩ := hn
  have hm : ∀ t ∈ n.ts, tensorB n.r t = true := cons_mem h3
  have hD0 : Dm (List.replicate 100 0) [] := ⟨by simp, fun y _ _ => by
    simp only [List.getD_eq_getElem?_getD, List.getElem?_replicate]
    split <;> rfl⟩
  rcases dimTs_spec n.ts [] _ hD0 (fun _ h => by simp at h) hm with ⟨k1, D, k2, k3⟩ | ⟨k1, k2⟩
  · rcases c_idimsOf h.ts h2 fun t ht => (tensor_facts (hm t ht)).1 with ⟨d, e1, e2, e3⟩ | ⟨e1, _⟩
    · rw [k2] at e1; cases e1
      have hdl : (ics D).length = 100 := by simp [e2]
      have hz : (zc P Y.t100_int).length = 100 := by rw [zc_dims]; simp
      have e6 : setAll (zc P Y.t100_int) 0 (ics D) = ics D := setAll_full (by rw [hdl, hz])
      have e7 : (List.take 100 (List.drop 0 (ics D))) = ics D := by rw [List.drop_zero, List.take_of_length_le (by omega)]
      have hO0 : OS H (H ++ [⟨ics D ++ [.sl u, .sl ⟨0, 0, 0, 0, true⟩, .int .i64 (n.ts.length : Int)], .rw, 103⟩]) H.length D n.op u ⟨0, 0, 0, 0, true⟩ n.ts.length [] :=
        ⟨Fr.of (Go.Abs.Le.app _ _), CO.nil _ _ _ _, app_get, Nat.le_refl _, e2, h.op⟩
      obtain ⟨sl, v, H', e8, O8, v8⟩ := c_istartState_0 h.ts h2 (fun t ht => (tensor_dims (hm t ht)).2.1) n.ts.length 0 _ _ [] (by omega) hO0 (by simp)
      rw [n0z] at e8
      refine ⟨H.length, D, sl, v, H', ?_, O8, v8, k2⟩
      rw [R_eq, e_istartState, e3]
      have b1 : Nat.beq (ics D).length 100 = true := by rw [hdl]; rfl
      simp only [Option.bind_some, lenP, nthP, PV.agg?, PV.sc?, boolAt, List.length_cons, List.length_nil, if_true, List.getElem?_cons_zero, List.getElem?_cons_succ, hdl, decide_true, cond_true, hz, Nat.zero_add, Nat.le_refl, e6, e7]
      rw [show (Nat.beq 100 100) = true from rfl, cond_true, h.ts.1, fill_os hdl]
      simp only [Option.bind_some]
      have hnb : newB H 103 (ics D ++ [.sl u, .sl ⟨0, 0, 0, 0, true⟩, .int .i64 (n.ts.length : Int)]) = some (H.length, H ++ [⟨ics D ++ [.sl u, .sl ⟨0, 0, 0, 0, true⟩, .int .i64 (n.ts.length : Int)], .rw, 103⟩]) := rfl
      rw [hnb]
      simp only [Option.bind_some]
      rw [e8]
      rfl
    · rw [k2] at e1; cases e1
  · rw [h3] at k1; cases k1

/-- Is an order one of the network's? -/
def ordB (n : Nw) (ps : List Sp) : Bool := netB n && decide (ps.length = n.ts.length - 1) && orderN ((List.range n.ts.length).map fun i : Nat => (i : Int)) n.ts.length ps
theorem netB_small {n : Nw} (h : netB n = true) : n.ts.length ≤ 12 ∧ n.op.length ≤ 12 ∧ ∀ t ∈ n.ts, t.L.length ≤ 12 := by
  simp only [netB, Bool.and_eq_true, decide_eq_true_eq] at h
  exact ⟨h.1.1.2, (sizeB_open h.2).1, fun t ht => (tensor_dims (cons_mem h.1.2 t ht)).2.1⟩
/-- impl.OrderOk -/
theorem c_iOrderOk {H : AH} {s u sp : Sl} {n : Nw} {ps : List Sp} (h : NS H s u n) (ho : n.op.length ≤ 1048576) (hp : S2 H sp ps) (hts : n.ts.length ≤ 4611686018427387904) :
    ∃ H', R (.fn F.iOrderOk) [npv n.r s u, ssc sp] H = some ⟨1, [bsc (ordB n ps)], H'⟩ ∧ Go.Abs.Le H H' := by
  obtain ⟨H1, e1, l1⟩ := c_iNetworkOk h ho
  unfold ordB
  cases hn : netB n with
  | false =>
    rw [hn] at e1
    exact ⟨H1, by rw [R_eq, e_iOrderOk, e1]; rfl, l1⟩
  | true =>
  rw [hn] at e1
  obtain ⟨b1, b2, b3⟩ := netB_small hn
  have hw : IntKind.wrap .i64 ((n.ts.length : Int) - 1) = (n.ts.length : Int) - 1 := by rw [wrap_id] <;> omega
  have hif : (if 0 > (n.ts.length : Int) - 1 then 0 else (n.ts.length : Int) - 1) = ((n.ts.length - 1 : Nat) : Int) := by split <;> omega
  by_cases hl : ps.length = n.ts.length - 1
  · obtain ⟨bs, D, sl, v, H2, e2, O2, v2, _⟩ := c_istartState (h.le l1) hn
    have hvl : v.length = n.ts.length := by have := congrArg List.length v2; simpa using this
    have hnums : v.map (·.n) = (List.range n.ts.length).map fun i : Nat => (i : Int) := by
      have := congrArg (List.map Prod.fst) v2
      rw [List.map_map, List.map_map] at this
      have e : (Prod.fst ∘ fun t : LE => (t.n, t.l)) = fun t => t.n := rfl
      rw [e] at this
      rw [this]
      refine List.ext_getElem (by simp) fun i h1 h2 => ?_
      simp
    have htot : totV v ≤ 144 := by
      have hlens : v.map (fun t => t.l.length) = n.ts.map (fun t => t.L.length) := by
        have := congrArg (List.map fun x : Int × List Int => x.2.length) v2
        rw [List.map_map, List.map_map] at this
        have e : ((fun x : Int × List Int => x.2.length) ∘ fun t : LE => (t.n, t.l)) = fun t => t.l.length := rfl
        rw [e] at this
        rw [this]
        refine List.ext_getElem (by simp) fun i h1 h2 => ?_
        simp
      unfold totV
      rw [hlens]
      have key : ∀ l : List Tn, (∀ t ∈ l, t.L.length ≤ 12) → (l.map fun t => t.L.length).sum ≤ l.length * 12 := by
        intro l
        induction l with
        | nil => intro _; simp
        | cons t l ih =>
          intro h
          have h1 := h t List.mem_cons_self
          have h2 := ih fun u hu => h u (List.mem_cons_of_mem _ hu)
          simp only [List.map_cons, List.sum_cons, List.length_cons]
          omega
      have := key n.ts b3
      omega
    have hnd : (v.map (·.n)).Nodup := by
      rw [hnums, List.Nodup, List.pairwise_map]
      exact List.pairwise_lt_range.imp fun {a b} hab => by omega
    have hlt : ∀ t ∈ v, t.n < ((n.ts.length : Nat) : Int) := fun t ht => by
      have : t.n ∈ v.map (·.n) := List.mem_map.2 ⟨t, ht, rfl⟩
      rw [hnums] at this
      obtain ⟨i, hi, e⟩ := List.mem_map.1 this
      have := List.mem_range.1 hi
      omega
    obtain ⟨H3, e3, l3⟩ := c_iOrderOk_0 (hp.le l1) (by omega) (by omega) ps.length 0 H2 sl n.ts.length v (by omega) O2 (by omega) (by omega) (by omega) hnd hlt
    rw [List.drop_zero, hnums] at e3
    refine ⟨H3, ?_, l1.trans l3⟩
    rw [decide_eq_true hl, R_eq, e_iOrderOk, e1]
    simp only [Option.bind_some, one_bool, Bool.not_true, cond_false]
    rw [h.ts.1, hw, hif, hp.1, hl, ne_i, cond_false, e2]
    have e3 : R (.loop F.iOrderOk 0) [.sc (.hp bs 0), ssc sp, isc (ps.length : Int), isc 0] H2 = _ := e3
    have hone : ∀ {α : Type} (b o : Nat) (k : Nat × Nat → Option α), ((oneP [.sc (.hp b o)]).bind fun p6 => p6.sc?.bind fun c7 => (ptrAt [c7] 0).bind k) = k (b, o) := fun b o k => rfl
    simp only [Option.bind_some, hone]
    rw [← hl, e3]
    cases orderN ((List.range n.ts.length).map fun i : Nat => (i : Int)) n.ts.length ps <;> rfl
  · refine ⟨H1, ?_, l1⟩
    have hne : (((ps.length : Nat) : Int) != ((n.ts.length - 1 : Nat) : Int)) = true := bne_iff_ne.2 (by omega)
    rw [R_eq, e_iOrderOk, e1]
    simp only [Option.bind_some, one_bool, Bool.not_true, cond_false]
    rw [h.ts.1, hw, hif, hp.1, hne, decide_eq_false hl]
    rfl
end Go.Abs
/- Contracts: orders (spec): the same answer. -/
namespace Go.Abs
set_option linter.all false
set_option maxRecDepth 10000

def orderU : List Bool → Int → List Sp → Bool
  | _, _, [] => true
  | us, top, p :: ps => if p.a < 0 ∨ p.a ≥ p.b ∨ p.b ≥ top ∨ us.getD p.a.toNat false = true ∨ us.getD p.b.toNat false = true then false else orderU ((us.set p.a.toNat true).set p.b.toNat true) (top + 1) ps
theorem getD_setB {us : List Bool} {i j : Nat} (hi : i < us.length) (v : Bool) : (us.set i v).getD j false = if i = j then v else us.getD j false := by
  simp only [List.getD_eq_getElem?_getD, List.getElem?_set]
  split
  · first | rfl | (rw [if_pos (by omega)]; rfl)
  · rfl
theorem orderN_U : ∀ (ps : List Sp) (ns : List Int) (us : List Bool) (top : Int), 0 ≤ top → top + ps.length ≤ us.length → (∀ x : Int, x ∈ ns ↔ (0 ≤ x ∧ x < top ∧ us.getD x.toNat false = false)) → (∀ x : Int, top ≤ x → us.getD x.toNat false = false) → orderN ns top ps = orderU us top ps
  | [], _, _, _, _, _, _, _ => rfl
  | p :: ps, ns, us, top, h0, hl, hx, hr => by
    simp only [List.length_cons] at hl
    simp only [orderN, orderU]
    by_cases hc : p.a ∈ ns ∧ p.b ∈ ns ∧ p.a < p.b
    · obtain ⟨ha, hb, hab⟩ := hc
      have ga := (hx p.a).1 ha
      have gb := (hx p.b).1 hb
      rw [if_pos ⟨ha, hb, hab⟩, if_neg]
      · have hal : p.a.toNat < us.length := by omega
        have hbl : p.b.toNat < (us.set p.a.toNat true).length := by simp; omega
        have hget : ∀ x : Int, ((us.set p.a.toNat true).set p.b.toNat true).getD x.toNat false = if p.b.toNat = x.toNat then true else if p.a.toNat = x.toNat then true else us.getD x.toNat false := fun x => by
          rw [getD_setB hbl, getD_setB hal]
        refine orderN_U ps _ _ (top + 1) (by omega) (by simp; omega) (fun x => ?_) (fun x hx1 => ?_)
        · rw [hget, List.mem_append, List.mem_filter, hx x]
          simp only [Bool.and_eq_true, bne_iff_ne, List.mem_singleton]
          constructor
          · rintro (⟨⟨g1, g2, g3⟩, g4, g5⟩ | rfl)
            · refine ⟨g1, by omega, ?_⟩
              rw [if_neg (by omega), if_neg (by omega)]; exact g3
            · refine ⟨h0, by omega, ?_⟩
              rw [if_neg (by omega), if_neg (by omega)]; exact hr x (Int.le_refl _)
          · rintro ⟨g1, g2, g3⟩
            by_cases e1 : p.b.toNat = x.toNat
            · rw [if_pos e1] at g3; cases g3
            rw [if_neg e1] at g3
            by_cases e2 : p.a.toNat = x.toNat
            · rw [if_pos e2] at g3; cases g3
            rw [if_neg e2] at g3
            by_cases e3 : x = top
            · exact .inr e3
            · exact .inl ⟨⟨g1, by omega, g3⟩, by omega, by omega⟩
        · rw [hget, if_neg (by omega), if_neg (by omega)]
          exact hr x (by omega)
      · rintro (h | h | h | h | h)
        · omega
        · omega
        · omega
        · rw [ga.2.2] at h; cases h
        · rw [gb.2.2] at h; cases h
    · rw [if_neg hc, if_pos]
      by_cases h1 : p.a < 0
      · exact .inl h1
      by_cases h2 : p.a ≥ p.b
      · exact .inr (.inl h2)
      by_cases h3 : p.b ≥ top
      · exact .inr (.inr (.inl h3))
      cases h4 : us.getD p.a.toNat false with
      | true => exact .inr (.inr (.inr (.inl rfl)))
      | false =>
        cases h5 : us.getD p.b.toNat false with
        | true => exact .inr (.inr (.inr (.inr rfl)))
        | false => exact absurd ⟨(hx p.a).2 ⟨by omega, by omega, h4⟩, (hx p.b).2 ⟨by omega, by omega, h5⟩, by omega⟩ hc

theorem bool_ld_i {H : AH} {b n : Nat} {x : Bool} {cs : List Bool} (hb : H[b]? = some ⟨bcs cs, .rw, 1⟩) {y : Int} (h0 : 0 ≤ y) (hi : y < n) (hc : n ≤ cs.length) {α : Type} (k : Bool → Option α) :
    ((ixA ⟨b, 0, n, n, x⟩ y 1).bind fun o => (rdB H b).bind fun q => (boolAt q o).bind k) = k (cs.getD y.toNat false) := by
  have e : y = ((y.toNat : Nat) : Int) := by omega
  have := bool_ld (n := n) (x := x) hb (i := y.toNat) (by omega) (by omega) k
  rw [← e] at this
  rw [this]
  congr 1
  simp [List.getD_eq_getElem?_getD, show y.toNat < cs.length by omega]
theorem bool_put_i {H : AH} {b n : Nat} {x : Bool} {cs : List Bool} (hb : H[b]? = some ⟨bcs cs, .rw, 1⟩) {y : Int} (h0 : 0 ≤ y) (hi : y < n) (hc : n ≤ cs.length) (v : Bool) {α : Type} (k : AH → Option α) :
    ((ixA ⟨b, 0, n, n, x⟩ y 1).bind fun o => (putR H b o [.bool v]).bind k) = k (H.set b ⟨bcs (cs.set y.toNat v), .rw, 1⟩) := by
  have e : y = ((y.toNat : Nat) : Int) := by omega
  have := bool_put (n := n) (x := x) hb (i := y.toNat) (by omega) (by omega) v k
  rw [← e] at this
  exact this
/-- spec.OrderOk: the steps -/
theorem c_sOrderOk_0 {H0 : AH} {bu N m : Nat} {sp : Sl} {ps : List Sp} (hu : H0.length ≤ bu) (hp : S2 H0 sp ps) (hN : N = m + ps.length) (hNs : N ≤ 4096) :
    ∀ (k i : Nat) (H : AH) (us : List Bool), i + k = ps.length → Go.Abs.Le H0 H → H[bu]? = some ⟨bcs us, .rw, 1⟩ → us.length = N →
      ∃ H', R (.loop F.sOrderOk 0) [isc (m : Int), ssc ⟨bu, 0, N, N, true⟩, ssc sp, isc (ps.length : Int), isc (i : Int)] H = cond (orderU us ((m + i : Nat) : Int) (ps.drop i)) (some ⟨2, [], H'⟩) (some ⟨1, [bsc false], H'⟩) ∧ Go.Abs.Le H0 H'
  | 0, i, H, us, hi, hle, hb, hl => by
    obtain rfl : i = ps.length := by omega
    refine ⟨H, ?_, hle⟩
    rw [R_eq, e_sOrderOk_0, lt_self]
    simp [orderU]
  | k + 1, i, H, us, hi, hle, hb, hl => by
    have hlt : i < ps.length := by omega
    have hw : IntKind.wrap .i64 ((m : Int) + (i : Int)) = ((m + i : Nat) : Int) := by rw [wrap_id] <;> omega
    rw [List.drop_eq_getElem_cons hlt]
    simp only [orderU]
    rw [R_eq, e_sOrderOk_0, lt_true hlt, w1 hlt (by omega), cond_true, (hp.le hle).ld hlt, hw]
    by_cases h1 : ps[i].a < 0
    · exact ⟨H, by rw [if_pos (.inl h1), decide_eq_true h1]; rfl, hle⟩
    by_cases h2 : ps[i].a ≥ ps[i].b
    · exact ⟨H, by rw [if_pos (.inr (.inl h2)), decide_eq_false h1, decide_eq_true h2]; rfl, hle⟩
    by_cases h3 : ps[i].b ≥ ((m + i : Nat) : Int)
    · exact ⟨H, by rw [if_pos (.inr (.inr (.inl h3))), decide_eq_false h1, decide_eq_false h2, decide_eq_true h3]; rfl, hle⟩
    rw [decide_eq_false h1, decide_eq_false h2, decide_eq_false h3]
    simp only [cond_false]
    rw [bool_ld_i hb (by omega) (by omega) (by omega)]
    cases h4 : us.getD ps[i].a.toNat false with
    | true => exact ⟨H, by rw [if_pos (.inr (.inr (.inr (.inl rfl))))]; rfl, hle⟩
    | false =>
    simp only [cond_false]
    rw [bool_ld_i hb (by omega) (by omega) (by omega)]
    cases h5 : us.getD ps[i].b.toNat false with
    | true => exact ⟨H, by rw [if_pos (.inr (.inr (.inr (.inr rfl))))]; rfl, hle⟩
    | false =>
    simp only [cond_false]
    rw [bool_put_i hb (by omega) (by omega) (by omega), bool_put_i (set_get hb) (by omega) (by omega) (by simp; omega), set_set]
    obtain ⟨H', e, l⟩ := c_sOrderOk_0 hu hp hN hNs k (i + 1) (H.set bu ⟨bcs ((us.set ps[i].a.toNat true).set ps[i].b.toNat true), .rw, 1⟩) ((us.set ps[i].a.toNat true).set ps[i].b.toNat true) (by omega) (hle.set hu) (set_get hb) (by simp [hl])
    refine ⟨H', ?_, l⟩
    rw [e, if_neg]
    · have : ((m + (i + 1) : Nat) : Int) = ((m + i : Nat) : Int) + 1 := by omega
      rw [this]
    · rintro (h | h | h | h | h)
      · exact h1 h
      · exact h2 h
      · exact h3 h
      · cases h
      · cases h
/-- spec.OrderOk -/
theorem c_sOrderOk {H : AH} {s u sp : Sl} {n : Nw} {ps : List Sp} (h : NS H s u n) (ho : n.op.length ≤ 1048576) (hp : S2 H sp ps) (hts : n.ts.length ≤ 4611686018427387904) :
    ∃ H', R (.fn F.sOrderOk) [npv n.r s u, ssc sp] H = some ⟨1, [bsc (ordB n ps)], H'⟩ ∧ Go.Abs.Le H H' := by
  obtain ⟨H1, e1, l1⟩ := c_sNetworkOk h ho
  unfold ordB
  cases hn : netB n with
  | false =>
    rw [hn] at e1
    exact ⟨H1, by rw [R_eq, e_sOrderOk, e1]; rfl, l1⟩
  | true =>
  rw [hn] at e1
  obtain ⟨b1, b2, b3⟩ := netB_small hn
  have hw : IntKind.wrap .i64 ((n.ts.length : Int) - 1) = (n.ts.length : Int) - 1 := by rw [wrap_id] <;> omega
  have hif : (if (n.ts.length : Int) - 1 > 0 then (n.ts.length : Int) - 1 else 0) = ((n.ts.length - 1 : Nat) : Int) := by split <;> omega
  by_cases hl : ps.length = n.ts.length - 1
  · have hw2 : IntKind.wrap .i64 ((n.ts.length : Int) + (ps.length : Int)) = ((n.ts.length + ps.length : Nat) : Int) := by rw [wrap_id] <;> omega
    have hle2 := l1.trans (Go.Abs.Le.app H1 [⟨bcs (List.replicate (n.ts.length + ps.length) false), .rw, 1⟩])
    obtain ⟨H3, e3, l3⟩ := c_sOrderOk_0 (H0 := H) (bu := H1.length) (N := n.ts.length + ps.length) (m := n.ts.length) l1.len hp rfl (by omega) ps.length 0 (H1 ++ [⟨bcs (List.replicate (n.ts.length + ps.length) false), .rw, 1⟩]) (List.replicate (n.ts.length + ps.length) false) (by omega) hle2 (by simp) (by simp)
    rw [List.drop_zero] at e3
    have hgd : ∀ x : Int, (List.replicate (n.ts.length + ps.length) false).getD x.toNat false = false := fun x => by
      simp only [List.getD_eq_getElem?_getD, List.getElem?_replicate]
      split <;> rfl
    have hou := orderN_U ps ((List.range n.ts.length).map fun i : Nat => (i : Int)) (List.replicate (n.ts.length + ps.length) false) (n.ts.length : Int) (by omega) (by simp) (fun x => by
      rw [hgd]
      simp only [List.mem_map, List.mem_range, and_true]
      constructor
      · rintro ⟨i, hi, rfl⟩; omega
      · rintro ⟨g1, g2⟩; exact ⟨x.toNat, by omega, by omega⟩) (fun x _ => hgd x)
    refine ⟨H3, ?_, l3⟩
    rw [decide_eq_true hl, hou, R_eq, e_sOrderOk, e1]
    simp only [Option.bind_some, one_bool, Bool.not_true, cond_false]
    have hpn : ((sp.n : Nat) : Int) = (ps.length : Int) := by rw [hp.1]
    rw [h.ts.1, hw, hif, hpn, hw2]
    have hnn : (((ps.length : Nat) : Int) != ((n.ts.length - 1 : Nat) : Int)) = false := by rw [hl]; exact ne_i _
    rw [hnn, cond_false, mk_bools (by omega)]
    simp only [Option.bind_some]
    have e3 : R (.loop F.sOrderOk 0) [isc (n.ts.length : Int), ssc ⟨H1.length, 0, n.ts.length + ps.length, n.ts.length + ps.length, true⟩, ssc sp, isc (ps.length : Int), isc 0] (H1 ++ [⟨bcs (List.replicate (n.ts.length + ps.length) false), .rw, 1⟩]) = _ := e3
    rw [e3]
    have e0 : ((n.ts.length + 0 : Nat) : Int) = (n.ts.length : Int) := by simp
    rw [e0]
    cases orderU (List.replicate (n.ts.length + ps.length) false) n.ts.length ps <;> rfl
  · refine ⟨H1, ?_, l1⟩
    have hne : (((ps.length : Nat) : Int) != ((n.ts.length - 1 : Nat) : Int)) = true := bne_iff_ne.2 (by omega)
    rw [R_eq, e_sOrderOk, e1]
    simp only [Option.bind_some, one_bool, Bool.not_true, cond_false]
    rw [h.ts.1, hw, hif, hp.1, hne, decide_eq_false hl]
    rfl
end Go.Abs
/- Contracts: labels of a network, slices. -/
namespace Go.Abs
set_option linter.all false
set_option maxRecDepth 10000

/-- The sizes of a valid network's labels. -/
theorem c_dims {H : AH} {s u : Sl} {n : Nw} (h : NS H s u n) (hn : netB n = true) :
    ∃ D, R (.fn F.idimsOf) [ssc s] H = some ⟨1, [.agg (ics D), bsc true], H⟩ ∧ D.length = 100 ∧ ∀ y : Int, 0 ≤ y → y ≤ 99 → D.getD y.toNat 0 = dimF n.ts y := by
  simp only [netB, Bool.and_eq_true, decide_eq_true_eq] at hn
  obtain ⟨⟨⟨h1, h2⟩, h3⟩, h4⟩ := hn
  have hm : ∀ t ∈ n.ts, tensorB n.r t = true := cons_mem h3
  have hD0 : Dm (List.replicate 100 0) [] := ⟨by simp, fun y _ _ => by
    simp only [List.getD_eq_getElem?_getD, List.getElem?_replicate]
    split <;> rfl⟩
  rcases dimTs_spec n.ts [] _ hD0 (fun _ h => by simp at h) hm with ⟨k1, D, k2, k3⟩ | ⟨k1, k2⟩
  · rcases c_idimsOf h.ts h2 fun t ht => (tensor_facts (hm t ht)).1 with ⟨d, e1, e2, e3⟩ | ⟨e1, _⟩
    · rw [k2] at e1; cases e1
      rw [List.nil_append] at k3
      exact ⟨D, e3, e2, k3.get⟩
    · rw [k2] at e1; cases e1
  · rw [h3] at k1; cases k1
theorem dims_take {D : List Int} (hD : D.length = 100) : ((setAll (zc P Y.t100_int) 0 (ics D)).drop 0).take 100 = ics D := by
  have hdl : (ics D).length = 100 := by simp [hD]
  have hz : (zc P Y.t100_int).length = 100 := by rw [zc_dims]; simp
  have e6 : setAll (zc P Y.t100_int) 0 (ics D) = ics D := setAll_full (by rw [hdl, hz])
  rw [e6, List.drop_zero, List.take_of_length_le (by omega)]
theorem t_dims {D : List Int} (hD : D.length = 100) {α : Type} (K : List Sc → Option α) :
    ((lenP [.agg (ics D), bsc true] 2).bind fun _ => (nthP [.agg (ics D), bsc true] 0).bind fun p2 => p2.agg?.bind fun l3 => cond (decide (l3.length = 100)) ((nthP [.agg (ics D), bsc true] 1).bind fun p4 => p4.sc?.bind fun c5 => (boolAt [c5] 0).bind fun b6 =>
      cond (Nat.beq l3.length 100) (cond (decide (0 + l3.length ≤ (zc P Y.t100_int).length)) (cond (decide (100 ≤ (setAll (zc P Y.t100_int) 0 l3).length)) (K l3) none) none) none) none) = K (ics D) := by
  have hdl : (ics D).length = 100 := by simp [hD]
  have hz : (zc P Y.t100_int).length = 100 := by rw [zc_dims]; simp
  have e6 : setAll (zc P Y.t100_int) 0 (ics D) = ics D := setAll_full (by rw [hdl, hz])
  simp only [Option.bind_some, lenP, nthP, PV.agg?, PV.sc?, boolAt, List.length_cons, List.length_nil, if_true, List.getElem?_cons_zero, List.getElem?_cons_succ, hdl, decide_true, cond_true, hz, Nat.zero_add, Nat.le_refl, e6]
  rfl

/-- The labels of tensors, ascending. -/
def labsF (ts : List Tn) : List Int := colF (fun _ (i : Nat) => if dimF ts (i : Int) > 0 then some (i : Int) else none) (List.range 100) 0
theorem labsF_len (ts : List Tn) : (labsF ts).length ≤ 100 := by
  have := colF_len (g := fun _ (i : Nat) => if dimF ts (i : Int) > 0 then some (i : Int) else none) (l := List.range 100) (i := 0)
  simpa [labsF] using this
theorem labsF_mem {ts : List Tn} {x : Int} (h : x ∈ labsF ts) : 0 ≤ x ∧ x ≤ 99 ∧ dimF ts x > 0 := by
  obtain ⟨j, a, ha, e⟩ := colF_mem h
  have := List.mem_range.1 ha
  split at e
  · rename_i hd; cases e; exact ⟨by omega, by omega, hd⟩
  · cases e
/-- spec.l12Labels -/
theorem c_sl12Labels {H : AH} {s : Sl} {ts : List Tn} (h : T3 H s ts) (hm : ts.length ≤ 1048576) (ht : ∀ t ∈ ts, t.L.length = t.D.length ∧ t.L.length ≤ 1048576) :
    ∃ s' H', R (.fn F.sl12Labels) [ssc s] H = some ⟨1, [ssc s'], H'⟩ ∧ Own H.length H' s' (labsF ts) ∧ Go.Abs.Le H H' := by
  have cl := collect (l := List.range 100) (H0 := H) (F := fun i u Hc => R (.loop F.sl12Labels 0) [ssc s, ssc u, isc (i : Int)] Hc) (fin := fun u Hc => some ⟨2, [ssc u], Hc⟩) (fun _ (i : Nat) => if dimF ts (i : Int) > 0 then some (i : Int) else none)
    (fun u Hc => by
      show R (.loop F.sl12Labels 0) [ssc s, ssc u, isc (((List.range 100).length : Nat) : Int)] Hc = _
      rw [List.length_range, R_eq, e_sl12Labels_0]; rfl)
    (fun i hi u Hc acc hle ho ha => by
      simp only [List.length_range] at hi ha
      have hd : decide ((i : Int) ≤ 99) = true := decide_eq_true (by omega)
      have hdim := c_sl12Dim (h.le hle) hm ht (i : Int)
      rw [List.getElem_range]
      by_cases h0 : dimF ts (i : Int) > 0
      · obtain ⟨s', H', e, o, l⟩ := push_le hle ho (by omega) (i : Int)
        refine ⟨s', H', ?_, by rw [if_pos h0]; simpa using o, l⟩
        rw [R_eq, e_sl12Labels_0, hd, cond_true, hdim]
        simp only [Option.bind_some, one_int, decide_eq_true h0, cond_true]
        rw [e, w1 (show i < 100 by omega) (by omega)]
      · refine ⟨u, Hc, ?_, by rw [if_neg h0]; simpa using ho, hle⟩
        rw [R_eq, e_sl12Labels_0, hd, cond_true, hdim]
        simp only [Option.bind_some, one_int, decide_eq_false h0, cond_false]
        rw [w1 (show i < 100 by omega) (by omega)])
    (s0 := ⟨H.length, 0, 0, 0, true⟩) (H := H ++ [⟨[], .rw, 1⟩]) (Go.Abs.Le.app _ _) (Own.nil _ _ _)
  obtain ⟨s', H', e, o, l⟩ := cl
  refine ⟨s', H', ?_, o, l⟩
  have e : R (.loop F.sl12Labels 0) [ssc s, ssc ⟨H.length, 0, 0, 0, true⟩, isc 0] (H ++ [⟨[], .rw, 1⟩]) = _ := e
  rw [R_eq, e_sl12Labels, newB_one]
  simp only [Option.bind_some]
  rw [e]
  rfl
/-- impl.occurring -/
theorem c_ioccurring {H : AH} {D : List Int} {ts : List Tn} (hD : D.length = 100) (hd : ∀ y : Int, 0 ≤ y → y ≤ 99 → D.getD y.toNat 0 = dimF ts y) (hge : ∀ y : Int, 0 ≤ dimF ts y) :
    ∃ s' H', R (.fn F.ioccurring) [.agg (ics D)] H = some ⟨1, [ssc s'], H'⟩ ∧ Own H.length H' s' (labsF ts) ∧ Go.Abs.Le H H' := by
  have hdl : (ics D).length = 100 := by simp [hD]
  have cl := collect (l := List.range 100) (H0 := H) (F := fun i u Hc => R (.loop F.ioccurring 0) [ssc u, .agg (ics D), isc (i : Int)] Hc) (fin := fun u Hc => some ⟨2, [ssc u], Hc⟩) (fun _ (i : Nat) => if dimF ts (i : Int) > 0 then some (i : Int) else none)
    (fun u Hc => by
      show R (.loop F.ioccurring 0) [ssc u, .agg (ics D), isc (((List.range 100).length : Nat) : Int)] Hc = _
      rw [List.length_range, R_eq, e_ioccurring_0]; rfl)
    (fun i hi u Hc acc hle ho ha => by
      simp only [List.length_range] at hi ha
      have hlt : decide ((i : Int) < 100) = true := decide_eq_true (by omega)
      have hdi := hd (i : Int) (by omega) (by omega)
      rw [Int.toNat_natCast] at hdi
      have hge := hge (i : Int)
      rw [List.getElem_range]
      by_cases h0 : dimF ts (i : Int) > 0
      · obtain ⟨s', H', e, o, l⟩ := push_le hle ho (by omega) (i : Int)
        refine ⟨s', H', ?_, by rw [if_pos h0]; simpa using o, l⟩
        have hb : (dimF ts (i : Int) != 0) = true := bne_iff_ne.2 (by omega)
        rw [R_eq, e_ioccurring_0, hlt, cond_true, ixA_100 (by omega) (by omega), Int.toNat_natCast]
        simp only [Option.bind_some, int_at (show i < D.length by omega), hdi, hb, cond_true]
        rw [e, w1 (show i < 100 by omega) (by omega)]
      · refine ⟨u, Hc, ?_, by rw [if_neg h0]; simpa using ho, hle⟩
        have hz : dimF ts (i : Int) = 0 := by omega
        rw [R_eq, e_ioccurring_0, hlt, cond_true, ixA_100 (by omega) (by omega), Int.toNat_natCast]
        simp only [Option.bind_some, int_at (show i < D.length by omega), hdi, hz, ne_i, cond_false]
        rw [w1 (show i < 100 by omega) (by omega)])
    (s0 := ⟨0, 0, 0, 0, true⟩) (H := H) (Go.Abs.Le.refl _) (Own.nil _ _ _)
  obtain ⟨s', H', e, o, l⟩ := cl
  refine ⟨s', H', ?_, o, l⟩
  have e : R (.loop F.ioccurring 0) [ssc ⟨0, 0, 0, 0, true⟩, .agg (ics D), isc 0] H = _ := e
  have e7 : (List.take 100 (List.drop 0 (ics D))) = ics D := by rw [List.drop_zero, List.take_of_length_le (by omega)]
  rw [R_eq, e_ioccurring, decide_eq_true (show 100 ≤ (ics D).length by omega), cond_true, e7, e]
  rfl
theorem dimF_ge {r : Rg} : ∀ {ts : List Tn}, (∀ t ∈ ts, tensorB r t = true) → ∀ y : Int, 0 ≤ dimF ts y := fun {ts} h y => (dimF_app (t := ⟨[], [], []⟩) (x := y) h).1
/-- impl.LabelsOf, of a valid network -/
theorem c_iLabelsOf {H : AH} {s u : Sl} {n : Nw} (h : NS H s u n) (hn : netB n = true) : ∃ s' H', R (.fn F.iLabelsOf) [npv n.r s u] H = some ⟨1, [ssc s'], H'⟩ ∧ Own H.length H' s' (labsF n.ts) ∧ Go.Abs.Le H H' := by
  obtain ⟨b1, b2, b3⟩ := netB_small hn
  have hm : ∀ t ∈ n.ts, tensorB n.r t = true := by
    have := hn
    simp only [netB, Bool.and_eq_true, decide_eq_true_eq] at this
    exact cons_mem this.1.2
  obtain ⟨H1, e1, l1⟩ := c_iNetworkOk h (by omega)
  rw [hn] at e1
  obtain ⟨D, e2, hD, hd⟩ := c_dims (h.le l1) hn
  obtain ⟨s', H', e3, o3, l3⟩ := c_ioccurring (H := H1) hD hd (dimF_ge hm)
  refine ⟨s', H', ?_, o3.low l1.len, l1.trans l3⟩
  rw [R_eq, e_iLabelsOf, e1]
  simp only [Option.bind_some, one_bool, Bool.not_true, cond_false]
  rw [e2]
  simp only [Option.bind_some]
  rw [t_dims hD, dims_take hD, e3]
  rfl
/-- The labels that are not open. -/
def closF (n : Nw) : List Int := colF (fun _ x => if (n.op.any fun y => x == y) then none else some x) (labsF n.ts) 0
theorem closF_len (n : Nw) : (closF n).length ≤ 100 := Nat.le_trans colF_len (labsF_len _)
theorem closF_mem {n : Nw} {x : Int} (h : x ∈ closF n) : x ∈ labsF n.ts := by
  obtain ⟨j, a, ha, e⟩ := colF_mem h
  split at e
  · cases e
  · cases e; exact ha
/-- impl.ClosedLabels -/
theorem c_iClosedLabels {H : AH} {s u : Sl} {n : Nw} (h : NS H s u n) (hn : netB n = true) : ∃ s' H', R (.fn F.iClosedLabels) [npv n.r s u] H = some ⟨1, [ssc s'], H'⟩ ∧ Own H.length H' s' (closF n) ∧ Go.Abs.Le H H' := by
  obtain ⟨b1, b2, b3⟩ := netB_small hn
  obtain ⟨s4, H1, e1, o1, l1⟩ := c_iLabelsOf h hn
  have hll := labsF_len n.ts
  have cl := collect (l := labsF n.ts) (H0 := H1) (F := fun i c Hc => R (.loop F.iClosedLabels 0) [ssc c, ssc s4, isc ((labsF n.ts).length : Int), isc (i : Int), npv n.r s u] Hc) (fin := fun c Hc => some ⟨2, [ssc c], Hc⟩) (fun _ x => if (n.op.any fun y => x == y) then none else some x)
    (fun c Hc => by rw [R_eq, e_iClosedLabels_0, lt_self]; rfl)
    (fun i hi c Hc acc hle ho ha => by
      have hint := c_ihasInt (h.op.le (l1.trans hle)) (by omega) (labsF n.ts)[i]
      by_cases h0 : (n.op.any fun y => (labsF n.ts)[i] == y) = true
      · refine ⟨c, Hc, ?_, by rw [if_pos h0]; simpa using ho, hle⟩
        rw [R_eq, e_iClosedLabels_0, lt_true hi, w1 hi (by omega), cond_true, (o1.is.le hle).ldk hi, hint]
        simp only [Option.bind_some, one_bool, h0, Bool.not_true, cond_false]
      · obtain ⟨s', H', e, o, l⟩ := push_le hle ho (by omega) (labsF n.ts)[i]
        refine ⟨s', H', ?_, by rw [if_neg h0]; simpa using o, l⟩
        rw [R_eq, e_iClosedLabels_0, lt_true hi, w1 hi (by omega), cond_true, (o1.is.le hle).ldk hi, hint]
        simp only [Option.bind_some, one_bool, Bool.eq_false_iff.2 h0, Bool.not_false, cond_true]
        rw [e])
    (s0 := ⟨0, 0, 0, 0, true⟩) (H := H1) (Go.Abs.Le.refl _) (Own.nil _ _ _)
  obtain ⟨s', H', e, o, l⟩ := cl
  refine ⟨s', H', ?_, o.low l1.len, l1.trans l⟩
  have e : R (.loop F.iClosedLabels 0) [ssc ⟨0, 0, 0, 0, true⟩, ssc s4, isc ((labsF n.ts).length : Int), isc 0, npv n.r s u] H1 = _ := e
  rw [R_eq, e_iClosedLabels, e1]
  simp only [Option.bind_some, one_sl]
  rw [o1.n, e]
  rfl
/-- spec.l21Closed -/
theorem c_sl21Closed {H : AH} {s u : Sl} {n : Nw} (h : NS H s u n) (hn : netB n = true) : ∃ s' H', R (.fn F.sl21Closed) [npv n.r s u] H = some ⟨1, [ssc s'], H'⟩ ∧ Own H.length H' s' (closF n) ∧ Go.Abs.Le H H' := by
  obtain ⟨b1, b2, b3⟩ := netB_small hn
  have hm : ∀ t ∈ n.ts, tensorB n.r t = true := by
    have := hn
    simp only [netB, Bool.and_eq_true, decide_eq_true_eq] at this
    exact cons_mem this.1.2
  have hle0 := Go.Abs.Le.app H [⟨[], .rw, 1⟩]
  obtain ⟨s4, H1, e1, o1, l1⟩ := c_sl12Labels (h.ts.le hle0) (by omega) (fun t ht => ⟨(tensor_dims (hm t ht)).1, by have := b3 t ht; omega⟩)
  have hll := labsF_len n.ts
  have hle01 := hle0.trans l1
  have cl := collect (l := labsF n.ts) (H0 := H1) (F := fun i c Hc => R (.loop F.sl21Closed 0) [ssc c, ssc s4, isc ((labsF n.ts).length : Int), isc (i : Int), npv n.r s u] Hc) (fin := fun c Hc => some ⟨2, [ssc c], Hc⟩) (fun _ x => if (n.op.any fun y => x == y) then none else some x)
    (fun c Hc => by rw [R_eq, e_sl21Closed_0, lt_self]; rfl)
    (fun i hi c Hc acc hle ho ha => by
      have hint := c_sl05Find (h.op.le (hle01.trans hle)) (by omega) (labsF n.ts)[i]
      have hfa := find_any n.op (labsF n.ts)[i]
      have hdd : decide (findF n.op (labsF n.ts)[i] 0 < 0) = !(n.op.any fun y => (labsF n.ts)[i] == y) := by
        rw [← hfa]
        by_cases hh : findF n.op (labsF n.ts)[i] 0 < 0
        · rw [decide_eq_true hh, decide_eq_false (by omega)]; rfl
        · rw [decide_eq_false hh, decide_eq_true (by omega)]; rfl
      by_cases h0 : (n.op.any fun y => (labsF n.ts)[i] == y) = true
      · refine ⟨c, Hc, ?_, by rw [if_pos h0]; simpa using ho, hle⟩
        rw [R_eq, e_sl21Closed_0, lt_true hi, w1 hi (by omega), cond_true, (o1.is.le hle).ldk hi, hint]
        simp only [Option.bind_some, one_int, hdd, h0, Bool.not_true, cond_false]
      · obtain ⟨s', H', e, o, l⟩ := push_le hle ho (by omega) (labsF n.ts)[i]
        refine ⟨s', H', ?_, by rw [if_neg h0]; simpa using o, l⟩
        rw [R_eq, e_sl21Closed_0, lt_true hi, w1 hi (by omega), cond_true, (o1.is.le hle).ldk hi, hint]
        simp only [Option.bind_some, one_int, hdd, Bool.eq_false_iff.2 h0, Bool.not_false, cond_true]
        rw [e])
    (s0 := ⟨H.length, 0, 0, 0, true⟩) (H := H1) (Go.Abs.Le.refl _) (Own.nil _ _ _)
  obtain ⟨s', H', e, o, l⟩ := cl
  refine ⟨s', H', ?_, o.low hle01.len, hle01.trans l⟩
  have e : R (.loop F.sl21Closed 0) [ssc ⟨H.length, 0, 0, 0, true⟩, ssc s4, isc ((labsF n.ts).length : Int), isc 0, npv n.r s u] H1 = _ := e
  rw [R_eq, e_sl21Closed, newB_one]
  simp only [Option.bind_some]
  rw [e1]
  simp only [Option.bind_some, one_sl]
  rw [o1.n, e]
  rfl

/-- Are labels to be sliced? -/
def slG (n : Nw) : List Int → List Int → Bool
  | _, [] => true
  | pre, x :: l => ((closF n).any fun y => x == y) && !(pre.any fun y => x == y) && slG n (pre ++ [x]) l
def sliceF (n : Nw) (l : List Int) : Int := if netB n && decide (l.length ≤ 4) && slG n [] l then prd (l.map (dimF n.ts)) else -1
theorem slG_mem {n : Nw} : ∀ {l pre : List Int}, slG n pre l = true → ∀ x ∈ l, x ∈ closF n
  | [], _, _, x, hx => by simp at hx
  | y :: l, pre, h, x, hx => by
    simp only [slG, Bool.and_eq_true] at h
    rcases List.mem_cons.1 hx with rfl | hx
    · obtain ⟨z, hz, e⟩ := List.any_eq_true.1 h.1.1
      have : x = z := by simpa using e
      rw [this]; exact hz
    · exact slG_mem h.2 x hx
theorem dimF_le {r : Rg} : ∀ {ts : List Tn}, (∀ t ∈ ts, tensorB r t = true) → ∀ y : Int, dimF ts y ≤ 8
  | [], _, y => by simp [dimF]
  | t :: ts, h, y => by
    unfold dimF
    split
    · have hf := (tensor_facts (h t List.mem_cons_self)).2.2
      simp only [List.getD_eq_getElem?_getD]
      cases hg : t.D[(findF t.L y 0).toNat]? with
      | none => simp
      | some d => exact (hf d (List.mem_of_getElem? hg)).2
    · exact dimF_le (fun u hu => h u (List.mem_cons_of_mem _ hu)) y
theorem slice_dims {n : Nw} {l : List Int} (hn : netB n = true) (hl : l.length ≤ 4) (hg : slG n [] l = true) : DimsOk (l.map (dimF n.ts)) := by
  have hm : ∀ t ∈ n.ts, tensorB n.r t = true := by
    simp only [netB, Bool.and_eq_true, decide_eq_true_eq] at hn
    exact cons_mem hn.1.2
  have hd : ∀ d ∈ l.map (dimF n.ts), 1 ≤ d ∧ d ≤ 8 := fun d hd => by
    obtain ⟨x, hx, rfl⟩ := List.mem_map.1 hd
    have := (labsF_mem (closF_mem (slG_mem hg x hx))).2.2
    exact ⟨by omega, dimF_le hm x⟩
  refine ⟨by simp; omega, hd, ?_⟩
  have key : ∀ l : List Int, (∀ d ∈ l, 1 ≤ d ∧ d ≤ 8) → 0 ≤ prd l ∧ prd l ≤ ((8 ^ l.length : Nat) : Int) := by
    intro l
    induction l with
    | nil => intro _; simp [prd]
    | cons d l ih =>
      intro h
      have h1 := h d List.mem_cons_self
      obtain ⟨h2, h3⟩ := ih fun x hx => h x (List.mem_cons_of_mem _ hx)
      simp only [prd, List.length_cons]
      refine ⟨Int.mul_nonneg (by omega) h2, ?_⟩
      have : d * prd l ≤ 8 * ((8 ^ l.length : Nat) : Int) := Int.mul_le_mul h1.2 h3 h2 (by omega)
      rw [Nat.pow_succ, Nat.mul_comm]
      simpa using this
  have h1 := (key _ hd).2
  have h2 : 8 ^ (l.map (dimF n.ts)).length ≤ 8 ^ 4 := Nat.pow_le_pow_right (by omega) (by simpa using hl)
  omega
end Go.Abs
/- Contracts: slice counts, jobs and sessions. -/
namespace Go.Abs
set_option linter.all false
set_option maxRecDepth 10000

theorem prodC_prd (lim : Int) : ∀ (l : List Int) (a : Int), 1 ≤ a → (∀ d ∈ l, 1 ≤ d) → a * prd l ≤ lim → prodC lim a l = a * prd l
  | [], a, _, _, _ => by simp [prodC, prd]
  | d :: l, a, ha, hd, hl => by
    have h1 := hd d List.mem_cons_self
    have h2 := prd_pos (a := l) fun x hx => hd x (List.mem_cons_of_mem _ hx)
    have h3 : 1 * 1 ≤ a * d := Int.mul_le_mul ha h1 (by omega) (by omega)
    have e : a * prd (d :: l) = a * d * prd l := by simp only [prd]; rw [Int.mul_assoc]
    rw [e] at hl ⊢
    have h4 : a * d * 1 ≤ a * d * prd l := Int.mul_le_mul (Int.le_refl _) h2 (by omega) (by omega)
    simp only [prodC]
    rw [if_neg (by omega)]
    exact prodC_prd lim l (a * d) (by omega) (fun x hx => hd x (List.mem_cons_of_mem _ hx)) hl
/-- spec.l05Product, of a valid tensor's sizes, with the larger limit -/
theorem c_sl05Product_big {H : AH} {s : Sl} {l : List Int} (h : IS H s l) (hd : DimsOk l) : R (.fn F.sl05Product) [ssc s, isc 65536] H = some ⟨1, [isc (prd l)], H⟩ := by
  have hm := hd.1
  rw [R_eq, e_sl05Product, h.1]
  have := loopS (F := fun (a : Int) (i : Nat) => R (.loop F.sl05Product 0) [isc 65536, isc a, ssc s, isc (l.length : Int), isc (i : Int)] H) (l := l) (fun a _ => 0 ≤ a ∧ a ≤ 65537) (fun a l _ => some ⟨2, [isc (prodC 65536 a l)], H⟩)
    (fun a _ => by rw [R_eq, e_sl05Product_0, lt_self]; rfl) (fun a i hi r ha ih => by
      rw [R_eq, e_sl05Product_0, h.ldk hi, lt_true hi, w1 hi (by omega)]
      have hdi := hd.2.1 l[i] (List.getElem_mem hi)
      have h1 : 0 ≤ a * l[i] := Int.mul_nonneg ha.1 (by omega)
      have h2 : a * l[i] ≤ 65537 * 8 := Int.mul_le_mul ha.2 hdi.2 (by omega) (by omega)
      have e1 : IntKind.wrap .i64 (a * l[i]) = a * l[i] := by rw [wrap_id] <;> omega
      have e2 : IntKind.wrap .i64 ((65536 : Int) + 1) = 65537 := by rw [wrap_id] <;> omega
      simp only [cond_true, e1, e2, prodC]
      exact ih _ (by split <;> omega)) 1 (by omega)
  have e := prodC_prd 65536 l 1 (by omega) hd.ge (by have := hd.2.2; omega)
  rw [Int.one_mul] at e
  rw [show ((0 : Int)) = ((0 : Nat) : Int) from rfl, this, e]
  rfl

theorem c_iSliceCount_0 {H : AH} {v c : Sl} {n : Nw} {l : List Int} (hv : IS H v l) (hc : IS H c (closF n)) (hl : l.length ≤ 4) :
    R (.loop F.iSliceCount 0) [ssc v, ssc c, ssc v, isc (l.length : Int), isc 0] H = if slG n [] l then some ⟨2, [], H⟩ else some ⟨1, [isc (-1)], H⟩ := by
  have hcl := closF_len n
  have := loopG (F := fun i : Nat => R (.loop F.iSliceCount 0) [ssc v, ssc c, ssc v, isc (l.length : Int), isc (i : Int)] H) (l := l) (fun r i => if slG n (l.take i) r then some ⟨2, [], H⟩ else some ⟨1, [isc (-1)], H⟩)
    (by rw [R_eq, e_iSliceCount_0, lt_self]; rfl) (fun i hi r hr => by
      rw [R_eq, e_iSliceCount_0, hv.ldk hi, lt_true hi, w1 hi (by omega)]
      unfold slG
      simp only [cond_true]
      rw [c_ihasInt hc (by omega)]
      simp only [Option.bind_some, one_bool]
      cases hA : (closF n).any fun x => l[i] == x with
      | false => simp
      | true =>
        simp only [Bool.not_true, cond_false, Bool.true_and]
        rw [slB_take (by have := hv.c; rw [hv.n] at this; omega)]
        simp only [Option.bind_some]
        rw [c_ihasInt (hv.take (Nat.le_of_lt hi)) (by simp; omega)]
        simp only [Option.bind_some, one_bool]
        cases hB : (l.take i).any fun x => l[i] == x with
        | true => simp
        | false =>
          simp only [Bool.not_false, cond_false, Bool.true_and]
          rw [← take_snoc hi]
          exact hr)
  exact this
theorem c_sSliceCount_0 {H : AH} {v c : Sl} {n : Nw} {l : List Int} (hv : IS H v l) (hc : IS H c (closF n)) (hl : l.length ≤ 4) :
    R (.loop F.sSliceCount 0) [ssc v, ssc c, ssc v, isc (l.length : Int), isc 0] H = if slG n [] l then some ⟨2, [], H⟩ else some ⟨1, [isc (-1)], H⟩ := by
  have hcl := closF_len n
  have hlt0 : ∀ (m : List Int) (x : Int), decide (findF m x 0 < 0) = !(m.any fun y => x == y) := fun m x => by
    rw [← find_any m x]
    by_cases hh : findF m x 0 < 0
    · rw [decide_eq_true hh, decide_eq_false (by omega)]; rfl
    · rw [decide_eq_false hh, decide_eq_true (by omega)]; rfl
  have := loopG (F := fun i : Nat => R (.loop F.sSliceCount 0) [ssc v, ssc c, ssc v, isc (l.length : Int), isc (i : Int)] H) (l := l) (fun r i => if slG n (l.take i) r then some ⟨2, [], H⟩ else some ⟨1, [isc (-1)], H⟩)
    (by rw [R_eq, e_sSliceCount_0, lt_self]; rfl) (fun i hi r hr => by
      rw [R_eq, e_sSliceCount_0, hv.ldk hi, lt_true hi, w1 hi (by omega)]
      unfold slG
      simp only [cond_true]
      rw [c_sl05Find hc (by omega)]
      simp only [Option.bind_some, one_int, hlt0]
      cases hA : (closF n).any fun x => l[i] == x with
      | false => simp
      | true =>
        simp only [Bool.not_true, cond_false, Bool.true_and]
        rw [slB_take (by have := hv.c; rw [hv.n] at this; omega)]
        simp only [Option.bind_some]
        rw [c_sl05Find (hv.take (Nat.le_of_lt hi)) (by simp; omega)]
        simp only [Option.bind_some, one_int, find_any]
        cases hB : (l.take i).any fun x => l[i] == x with
        | true => simp
        | false =>
          simp only [Bool.not_false, cond_false, Bool.true_and]
          rw [← take_snoc hi]
          exact hr)
  exact this

theorem net_mem {n : Nw} (hn : netB n = true) : ∀ t ∈ n.ts, tensorB n.r t = true := by
  simp only [netB, Bool.and_eq_true, decide_eq_true_eq] at hn
  exact cons_mem hn.1.2
/-- impl.SliceCount -/
theorem c_iSliceCount {H : AH} {s u v : Sl} {n : Nw} {l : List Int} (h : NS H s u n) (ho : n.op.length ≤ 1048576) (hv : IS H v l) :
    ∃ H', R (.fn F.iSliceCount) [npv n.r s u, ssc v] H = some ⟨1, [isc (sliceF n l)], H'⟩ ∧ Go.Abs.Le H H' := by
  obtain ⟨H1, e1, l1⟩ := c_iNetworkOk h ho
  cases hn : netB n with
  | false =>
    rw [hn] at e1
    refine ⟨H1, ?_, l1⟩
    have : sliceF n l = -1 := by unfold sliceF; simp [hn]
    rw [R_eq, e_iSliceCount, e1, this]; rfl
  | true =>
    rw [hn] at e1
    by_cases hl : l.length ≤ 4
    · have h4 : decide ((v.n : Int) > 4) = false := decide_eq_false (by rw [hv.n]; omega)
      obtain ⟨c, H2, e2, o2, l2⟩ := c_iClosedLabels (h.le l1) hn
      have l12 := l1.trans l2
      have e3 := c_iSliceCount_0 (n := n) (hv.le l12) o2.is hl
      by_cases hg : slG n [] l = true
      · rw [if_pos hg] at e3
        obtain ⟨D, e4, hD, hd⟩ := c_dims (h.le l12) hn
        have hx : ∀ x ∈ l, 0 ≤ x ∧ x ≤ 99 := fun x hx => by have := labsF_mem (closF_mem (slG_mem hg x hx)); omega
        obtain ⟨a, b, H3, e5, l3, o5, o6⟩ := c_iaxesOf hD (hv.le l12) (by omega) hx
        have hmap : (l.map fun x => D.getD x.toNat 0) = l.map (dimF n.ts) := List.map_congr_left fun x hxm => hd x (hx x hxm).1 (hx x hxm).2
        rw [hmap] at o6
        have hok := slice_dims hn hl hg
        have e7 := c_iproductOf o6 (by simp; omega) hok.2.1
        rw [prodI_eq, Int.one_mul] at e7
        have hp := hok.2.2
        refine ⟨H3, ?_, l12.trans l3⟩
        have : sliceF n l = prd (l.map (dimF n.ts)) := by unfold sliceF; simp [hn, hg, hl]
        rw [R_eq, e_iSliceCount, e1, this]
        simp only [Option.bind_some, one_bool, Bool.not_true, cond_false, h4]
        rw [e2]
        simp only [Option.bind_some, one_sl]
        rw [hv.n, e3]
        simp only [Option.bind_some, Nat.beq, cond_true, cond_false]
        rw [e4]
        simp only [Option.bind_some]
        rw [t_dims hD, dims_take hD, e5]
        simp only [Option.bind_some, o_sss]
        rw [e7]
        simp only [Option.bind_some, one_int]
        rw [decide_eq_false (by omega)]
        rfl
      · rw [if_neg hg] at e3
        refine ⟨H2, ?_, l12⟩
        have : sliceF n l = -1 := by unfold sliceF; simp [hg]
        rw [R_eq, e_iSliceCount, e1, this]
        simp only [Option.bind_some, one_bool, Bool.not_true, cond_false, h4]
        rw [e2]
        simp only [Option.bind_some, one_sl]
        rw [hv.n, e3]
        rfl
    · have h4 : decide ((v.n : Int) > 4) = true := decide_eq_true (by rw [hv.n]; omega)
      refine ⟨H1, ?_, l1⟩
      have : sliceF n l = -1 := by unfold sliceF; simp [hl]
      rw [R_eq, e_iSliceCount, e1, this]
      simp only [Option.bind_some, one_bool, Bool.not_true, cond_false, h4, cond_true]
/-- spec.SliceCount -/
theorem c_sSliceCount {H : AH} {s u v : Sl} {n : Nw} {l : List Int} (h : NS H s u n) (ho : n.op.length ≤ 1048576) (hv : IS H v l) :
    ∃ H', R (.fn F.sSliceCount) [npv n.r s u, ssc v] H = some ⟨1, [isc (sliceF n l)], H'⟩ ∧ Go.Abs.Le H H' := by
  obtain ⟨H1, e1, l1⟩ := c_sNetworkOk h ho
  cases hn : netB n with
  | false =>
    rw [hn] at e1
    refine ⟨H1, ?_, l1⟩
    have : sliceF n l = -1 := by unfold sliceF; simp [hn]
    rw [R_eq, e_sSliceCount, e1, this]; rfl
  | true =>
    rw [hn] at e1
    obtain ⟨b1, b2, b3⟩ := netB_small hn
    by_cases hl : l.length ≤ 4
    · have h4 : decide ((v.n : Int) > 4) = false := decide_eq_false (by rw [hv.n]; omega)
      obtain ⟨c, H2, e2, o2, l2⟩ := c_sl21Closed (h.le l1) hn
      have l12 := l1.trans l2
      have e3 := c_sSliceCount_0 (n := n) (hv.le l12) o2.is hl
      by_cases hg : slG n [] l = true
      · rw [if_pos hg] at e3
        have hts : TsOk n.ts := ⟨by omega, fun t ht => ⟨(tensor_dims (net_mem hn t ht)).1, by have := b3 t ht; omega⟩⟩
        obtain ⟨b, H3, e5, l3, o6⟩ := c_sl12Dims (h.ts.le l12) hts (hv.le l12) (by omega)
        have hok := slice_dims hn hl hg
        have e7 := c_sl05Product_big o6.is hok
        refine ⟨H3, ?_, l12.trans l3⟩
        have : sliceF n l = prd (l.map (dimF n.ts)) := by unfold sliceF; simp [hn, hg, hl]
        rw [R_eq, e_sSliceCount, e1, this]
        simp only [Option.bind_some, one_bool, Bool.not_true, cond_false, h4]
        rw [e2]
        simp only [Option.bind_some, one_sl]
        rw [hv.n, e3]
        simp only [Option.bind_some, Nat.beq, cond_true, cond_false]
        rw [e5]
        simp only [Option.bind_some, one_sl]
        rw [e7]
        simp only [Option.bind_some, one_int]
      · rw [if_neg hg] at e3
        refine ⟨H2, ?_, l12⟩
        have : sliceF n l = -1 := by unfold sliceF; simp [hg]
        rw [R_eq, e_sSliceCount, e1, this]
        simp only [Option.bind_some, one_bool, Bool.not_true, cond_false, h4]
        rw [e2]
        simp only [Option.bind_some, one_sl]
        rw [hv.n, e3]
        rfl
    · have h4 : decide ((v.n : Int) > 4) = true := decide_eq_true (by rw [hv.n]; omega)
      refine ⟨H1, ?_, l1⟩
      have : sliceF n l = -1 := by unfold sliceF; simp [hl]
      rw [R_eq, e_sSliceCount, e1, this]
      simp only [Option.bind_some, one_bool, Bool.not_true, cond_false, h4, cond_true]

end Go.Abs
/- Contracts: jobs and sessions. -/
namespace Go.Abs
set_option linter.all false
set_option maxRecDepth 10000

structure JB where
  sl : List Int
  ps : List Sp
  nx : Int
  t : Tn
structure JS (H : AH) (v sp a b c : Sl) (j : JB) : Prop where
  v : IS H v j.sl
  ps : S2 H sp j.ps
  t : TS H a b c j.t
theorem JS.le {H H' : AH} (h : Go.Abs.Le H H') {v sp a b c : Sl} {j : JB} (k : JS H v sp a b c j) : JS H' v sp a b c j := ⟨k.v.le h, k.ps.le h, k.t.le h⟩
structure SB where
  n : Nw
  ps : List Sp
  j : JB
structure SS (H : AH) (s u sp v jp a b c : Sl) (g : SB) : Prop where
  n : NS H s u g.n
  ps : S2 H sp g.ps
  j : JS H v jp a b c g.j
theorem SS.le {H H' : AH} (h : Go.Abs.Le H H') {s u sp v jp a b c : Sl} {g : SB} (k : SS H s u sp v jp a b c g) : SS H' s u sp v jp a b c g := ⟨k.n.le h, k.ps.le h, k.j.le h⟩
end Go.Abs
/- What the results of calls are taken apart to. Printed by clgen.py. -/
namespace Go.Abs
set_option linter.all false
end Go.Abs
/- Contracts: the law's own helpers for tensors, networks, steps, jobs and sessions. -/
namespace Go.Abs
set_option linter.all false
set_option maxRecDepth 10000

theorem maxLen_le : maxLen ≤ 9223372036854775807 := by decide
theorem z_ints {H : AH} {s : Sl} {l : List Int} (h : IS H s l) (hm : l.length ≤ maxLen) {left : Int} (h0 : 0 ≤ left) (h1 : left ≤ 1048576) :
    ∃ v, R (.fn F.wszIntS) [ssc s, isc left] H = some ⟨1, [isc v], H⟩ ∧ (v < 0 ∨ (0 ≤ v ∧ v ≤ 1048576 ∧ l.length ≤ 1048576)) := by
  have hx := maxLen_le
  have hn := h.n
  refine ⟨_, c_wszIntS s left h0 h1 (by omega) H, ?_⟩
  by_cases hg : left - (s.n : Int) < 0
  · rw [if_pos hg]; exact .inl (by omega)
  · rw [if_neg hg]; exact .inr ⟨by omega, by omega, by omega⟩
theorem z_steps {H : AH} {s : Sl} {ps : List Sp} (h : S2 H s ps) (hm : ps.length ≤ maxLen) {left : Int} (h0 : 0 ≤ left) (h1 : left ≤ 1048576) :
    ∃ v, R (.fn F.wszStepS) [ssc s, isc left] H = some ⟨1, [isc v], H⟩ ∧ (v < 0 ∨ (0 ≤ v ∧ v ≤ 1048576 ∧ ps.length ≤ 1048576)) := by
  have hx := maxLen_le
  have hn := h.1
  have hw : IntKind.wrap .i64 (left - (s.n : Int)) = left - s.n := by rw [wrap_id] <;> omega
  rw [R_eq, e_wszStepS, hw]
  by_cases hg : left - (s.n : Int) < 0
  · exact ⟨-1, by rw [decide_eq_true hg]; rfl, .inl (by omega)⟩
  · exact ⟨_, by rw [decide_eq_false hg]; rfl, .inr ⟨by omega, by omega, by omega⟩⟩
def TnMax (t : Tn) : Prop := t.L.length ≤ maxLen ∧ t.D.length ≤ maxLen ∧ t.X.length ≤ maxLen
theorem z_tensor {H : AH} {a b c : Sl} {t : Tn} (h : TS H a b c t) (hm : TnMax t) {left : Int} (h0 : 0 ≤ left) (h1 : left ≤ 1048576) :
    ∃ v, R (.fn F.wszTensor) [tpv a b c, isc left] H = some ⟨1, [isc v], H⟩ ∧ (v < 0 ∨ (0 ≤ v ∧ v ≤ 1048576 ∧ TnSmall t)) := by
  rw [R_eq, e_wszTensor]
  obtain ⟨v1, e1, g1 | ⟨g1, k1, m1⟩⟩ := z_ints h.L hm.1 h0 h1
  · exact ⟨-1, by rw [e1]; simp only [Option.bind_some, one_int, decide_eq_true g1, cond_true], .inl (by omega)⟩
  obtain ⟨v2, e2, g2 | ⟨g2, k2, m2⟩⟩ := z_ints h.D hm.2.1 g1 k1
  · exact ⟨-1, by rw [e1]; simp only [Option.bind_some, one_int, decide_eq_false (Int.not_lt.2 g1), cond_false]; rw [e2]; simp only [Option.bind_some, one_int, decide_eq_true g2, cond_true], .inl (by omega)⟩
  obtain ⟨v3, e3, g3 | ⟨g3, k3, m3⟩⟩ := z_ints h.X hm.2.2 g2 k2
  · exact ⟨-1, by rw [e1]; simp only [Option.bind_some, one_int, decide_eq_false (Int.not_lt.2 g1), cond_false]; rw [e2]; simp only [Option.bind_some, one_int, decide_eq_false (Int.not_lt.2 g2), cond_false]; rw [e3]; simp only [Option.bind_some, one_int, decide_eq_true g3, cond_true], .inl (by omega)⟩
  · exact ⟨v3, by rw [e1]; simp only [Option.bind_some, one_int, decide_eq_false (Int.not_lt.2 g1), cond_false]; rw [e2]; simp only [Option.bind_some, one_int, decide_eq_false (Int.not_lt.2 g2), cond_false]; rw [e3]; simp only [Option.bind_some, one_int, decide_eq_false (Int.not_lt.2 g3), cond_false], .inr ⟨g3, k3, m1, m2, m3⟩⟩
theorem z_tensors {H : AH} {s : Sl} {ts : List Tn} (h : T3 H s ts) (hn : ts.length ≤ maxLen) (hm : ∀ t ∈ ts, TnMax t) {left : Int} (h0 : 0 ≤ left) (h1 : left ≤ 1048576) :
    ∃ v, R (.fn F.wszTensorS) [ssc s, isc left] H = some ⟨1, [isc v], H⟩ ∧ (v < 0 ∨ (0 ≤ v ∧ v ≤ 1048576 ∧ ts.length ≤ 1048576 ∧ ∀ t ∈ ts, TnSmall t)) := by
  have hx := maxLen_le
  have loop : ∀ (k i : Nat), i + k = ts.length → ts.length ≤ 1048576 → ∀ left : Int, 0 ≤ left → left ≤ 1048576 →
      (R (.loop F.wszTensorS 0) [ssc s, isc left, isc (i : Int)] H = some ⟨1, [isc (-1)], H⟩) ∨ ∃ v : Int, R (.loop F.wszTensorS 0) [ssc s, isc left, isc (i : Int)] H = some ⟨2, [isc v], H⟩ ∧ 0 ≤ v ∧ v ≤ 1048576 ∧ ∀ t ∈ ts.drop i, TnSmall t := by
    intro k
    induction k with
    | zero =>
      intro i hi hl left h0 h1
      obtain rfl : i = ts.length := by omega
      exact .inr ⟨left, by rw [R_eq, e_wszTensorS_0, h.1, lt_self]; rfl, h0, h1, by simp⟩
    | succ k ih =>
      intro i hi hl left h0 h1
      have hlt : i < ts.length := by omega
      obtain ⟨a, b, c, ht, kt⟩ := h.ld hlt
      rw [R_eq, e_wszTensorS_0, h.1, lt_true hlt, w1 hlt (by omega), cond_true, kt]
      obtain ⟨v, e, g | ⟨g, g2, g3⟩⟩ := z_tensor ht (hm _ (List.getElem_mem hlt)) h0 h1
      · rw [e]
        simp only [Option.bind_some, one_int, decide_eq_true g, cond_true]
        exact .inl trivial
      · rw [e]
        simp only [Option.bind_some, one_int, decide_eq_false (Int.not_lt.2 g), cond_false]
        rcases ih (i + 1) (by omega) hl v g g2 with h2 | ⟨w, h2, h3, h4, h5⟩
        · exact .inl h2
        · refine .inr ⟨w, h2, h3, h4, fun t ht' => ?_⟩
          rw [List.drop_eq_getElem_cons hlt] at ht'
          rcases List.mem_cons.1 ht' with rfl | ht'
          · exact g3
          · exact h5 t ht'
  have hn1 := h.1
  have hw : IntKind.wrap .i64 (left - (s.n : Int)) = left - s.n := by rw [wrap_id] <;> omega
  rw [R_eq, e_wszTensorS, hw]
  by_cases hneg : left - (s.n : Int) < 0
  · exact ⟨-1, by rw [decide_eq_true hneg]; rfl, .inl (by omega)⟩
  · rw [decide_eq_false hneg, cond_false]
    have hll : ts.length ≤ 1048576 := by omega
    rcases loop ts.length 0 (by omega) hll (left - s.n) (by omega) (by omega) with h2 | ⟨v, h2, h3, h4, h5⟩
    · have h2 : R (.loop F.wszTensorS 0) [ssc s, isc (left - s.n), isc 0] H = some ⟨1, [isc (-1)], H⟩ := h2
      rw [h2]
      exact ⟨-1, rfl, .inl (by omega)⟩
    · have h2 : R (.loop F.wszTensorS 0) [ssc s, isc (left - s.n), isc 0] H = some ⟨2, [isc v], H⟩ := h2
      rw [h2]
      exact ⟨v, rfl, .inr ⟨h3, h4, hll, by simpa using h5⟩⟩
def NwMax (n : Nw) : Prop := n.ts.length ≤ maxLen ∧ n.op.length ≤ maxLen ∧ ∀ t ∈ n.ts, TnMax t
def NwSmall (n : Nw) : Prop := n.ts.length ≤ 1048576 ∧ n.op.length ≤ 1048576 ∧ ∀ t ∈ n.ts, TnSmall t
theorem z_network {H : AH} {s u : Sl} {n : Nw} (h : NS H s u n) (hm : NwMax n) {left : Int} (h0 : 0 ≤ left) (h1 : left ≤ 1048576) :
    ∃ v, R (.fn F.wszNetwork) [npv n.r s u, isc left] H = some ⟨1, [isc v], H⟩ ∧ (v < 0 ∨ (0 ≤ v ∧ v ≤ 1048576 ∧ NwSmall n)) := by
  rw [R_eq, e_wszNetwork]
  obtain ⟨v1, e1, g1 | ⟨g1, k1, m1, m2⟩⟩ := z_tensors h.ts hm.1 hm.2.2 h0 h1
  · exact ⟨-1, by rw [e1]; simp only [Option.bind_some, one_int, decide_eq_true g1, cond_true], .inl (by omega)⟩
  obtain ⟨v2, e2, g2 | ⟨g2, k2, m3⟩⟩ := z_ints h.op hm.2.1 g1 k1
  · exact ⟨-1, by rw [e1]; simp only [Option.bind_some, one_int, decide_eq_false (Int.not_lt.2 g1), cond_false]; rw [e2]; simp only [Option.bind_some, one_int, decide_eq_true g2, cond_true], .inl (by omega)⟩
  · exact ⟨v2, by rw [e1]; simp only [Option.bind_some, one_int, decide_eq_false (Int.not_lt.2 g1), cond_false]; rw [e2]; simp only [Option.bind_some, one_int, decide_eq_false (Int.not_lt.2 g2), cond_false], .inr ⟨g2, k2, m1, m3, m2⟩⟩
theorem putR_all {H : AH} {b o z : Nat} {cs : List Sc} {x : Sc} {vs : List Sc} (hb : H[b]? = some ⟨cs, .rw, z⟩) (h : o + (vs.length + 1) ≤ cs.length) : putR H b o (x :: vs) = some (H.set b ⟨setAll cs o (x :: vs), .rw, z⟩) := by
  unfold putR
  simp only [hb, Option.bind_some]
  rw [if_pos (by simpa using h)]
theorem mk_any {H : AH} {z y n : Nat} {vs : List Sc} (hn : n ≤ 1048576) (hy : (y : Int) ≤ 1024) (hz : z ≠ 0) (hy0 : y ≠ 0) : mkB H z y vs (n : Int) (n : Int) = some (⟨H.length, 0, n, n, true⟩, H ++ [⟨(List.replicate n vs).flatten, .rw, z⟩]) := by
  unfold mkB
  have hmost : (n : Int) * (y : Int) ≤ most := by
    have : (n : Int) * (y : Int) ≤ 1048576 * 1024 := Int.mul_le_mul (by omega) hy (by omega) (by omega)
    unfold most; omega
  rw [if_pos ⟨hz, hy0, by omega, by omega, hmost⟩]
  simp
theorem TS.set {H : AH} {a b c : Sl} {t : Tn} (h : TS H a b c t) {q : Nat} {k : Blk} (h1 : a.b ≠ q) (h2 : b.b ≠ q) (h3 : c.b ≠ q) : TS (H.set q k) a b c t := ⟨h.L.set fun _ => h1, h.D.set fun _ => h2, h.X.set fun _ => h3⟩
/-- laws.eqStepS -/
theorem steps_eq {H : AH} {a b : Sl} {ps : List Sp} (ha : S2 H a ps) (hb : S2 H b ps) (hm : ps.length ≤ 1048576) : R (.fn F.weqStepS) [ssc a, ssc b] H = some ⟨1, [bsc true], H⟩ := by
  have := loop_all (F := fun i : Nat => R (.loop F.weqStepS 0) [ssc a, ssc b, isc (i : Int)] H) (l := ps) (some ⟨2, [], H⟩)
    (by rw [R_eq, e_weqStepS_0, ha.1, lt_self]; rfl) (fun i hi => by
      have he : R (.fn F.weqStep) [.agg [.int .i64 ps[i].a, .int .i64 ps[i].b], .agg [.int .i64 ps[i].a, .int .i64 ps[i].b]] H = some ⟨1, [bsc true], H⟩ := by
        rw [R_eq, e_weqStep, ne_i, ne_i]; rfl
      rw [R_eq, e_weqStepS_0, ha.1, lt_true hi, w1 hi (by omega), cond_true, ha.ld hi, hb.ld hi, he]
      rfl)
  have this : R (.loop F.weqStepS 0) [ssc a, ssc b, isc 0] H = some ⟨2, [], H⟩ := this
  rw [R_eq, e_weqStepS, ha.1, hb.1, this]
  simp [Nat.beq]
end Go.Abs
/- Marks: what is marked changes within its own blocks alone. -/
namespace Go.Abs
set_option linter.all false
set_option maxRecDepth 10000

/-- A row of whole cells in a block from n0 on, below n1. -/
structure WS (z n0 n1 : Nat) (H : AH) (s : Sl) : Prop where
  o : s.o = 0
  blk : s.n = 0 ∨ (n0 ≤ s.b ∧ s.b < n1 ∧ ∃ cs, H[s.b]? = some ⟨cs, .rw, z⟩ ∧ cs.length = s.n * z)
/-- The same shape; nothing changes out of the blocks from n0 on, below n1, nor the rows of rows in them. -/
structure ShE (n0 n1 : Nat) (H H' : AH) : Prop where
  len : H'.length = H.length
  out : ∀ b, (b < n0 ∨ n1 ≤ b) → H'[b]? = H[b]?
  inn : ∀ (b : Nat) (cs : List Sc) (z : Nat), H[b]? = some ⟨cs, .rw, z⟩ → ∃ cs' : List Sc, H'[b]? = some ⟨cs', .rw, z⟩ ∧ cs'.length = cs.length ∧ (z = 3 → cs' = cs)
theorem ShE.refl (n0 n1 : Nat) (H : AH) : ShE n0 n1 H H := ⟨rfl, fun _ _ => rfl, fun b cs z h => ⟨cs, h, rfl, fun _ => rfl⟩⟩
theorem ShE.trans {n0 n1 : Nat} {A B C : AH} (h : ShE n0 n1 A B) (k : ShE n0 n1 B C) : ShE n0 n1 A C :=
  ⟨k.len.trans h.len, fun b hb => (k.out b hb).trans (h.out b hb), fun b cs z hb => by
    obtain ⟨c1, h1, h2, h3⟩ := h.inn b cs z hb
    obtain ⟨c2, k1, k2, k3⟩ := k.inn b c1 z h1
    exact ⟨c2, k1, k2.trans h2, fun e => (k3 e).trans (h3 e)⟩⟩
theorem ShE.set {n0 n1 z b : Nat} {H : AH} {cs cs' : List Sc} (hz : z ≠ 3) (h0 : n0 ≤ b) (h1 : b < n1) (hb : H[b]? = some ⟨cs, .rw, z⟩) (hl : cs'.length = cs.length) : ShE n0 n1 H (H.set b ⟨cs', .rw, z⟩) :=
  ⟨by simp, fun d hd => List.getElem?_set_ne (by omega), fun d c y hd => by
    by_cases e : b = d
    · subst e
      rw [hb] at hd
      cases hd
      exact ⟨cs', set_get hb, hl, fun e => absurd e hz⟩
    · exact ⟨c, by rw [List.getElem?_set_ne e]; exact hd, rfl, fun _ => rfl⟩⟩
theorem WS.she {z n0 n1 : Nat} {H H' : AH} {s : Sl} (h : WS z n0 n1 H s) (k : ShE n0 n1 H H') : WS z n0 n1 H' s :=
  ⟨h.o, h.blk.imp id fun ⟨a, b, cs, c, d⟩ => by
    obtain ⟨c', e1, e2, _⟩ := k.inn _ cs z c
    exact ⟨a, b, c', e1, e2.trans d⟩⟩
theorem WS.ext {z n0 n1 n2 : Nat} {H H' : AH} {s : Sl} (h : WS z n0 n1 H s) (k : Go.Abs.Le H H') (hn : n1 ≤ n2) : WS z n0 n2 H' s :=
  ⟨h.o, h.blk.imp id fun ⟨a, b, cs, c, d⟩ => ⟨a, by omega, cs, by rw [k.get _ (List.getElem?_eq_some_iff.1 c).1]; exact c, d⟩⟩
theorem WS.low {z m0 n0 n1 : Nat} {H : AH} {s : Sl} (h : WS z n0 n1 H s) (hn : m0 ≤ n0) : WS z m0 n1 H s :=
  ⟨h.o, h.blk.imp id fun ⟨a, b, cs, c, d⟩ => ⟨by omega, b, cs, c, d⟩⟩
/-- What lies below the marked blocks stays. -/
theorem ShE.le {n0 n1 : Nat} {A H H' : AH} (h : ShE n0 n1 H H') (k : Go.Abs.Le A H) (hn : A.length ≤ n0) : Go.Abs.Le A H' :=
  ⟨by rw [h.len]; exact k.len, fun b hb => by rw [h.out b (.inl (by omega))]; exact k.get b hb⟩
/-- laws.markIntS -/
theorem m_ints {n0 n1 : Nat} {H : AH} {s : Sl} (h : WS 1 n0 n1 H s) (hl : s.n ≤ 1048576) {k : Int} (h0 : 0 ≤ k) (h1 : k ≤ 4611686018427387904) :
    ∃ H', R (.fn F.wmarkIntS) [ssc s, isc k] H = some ⟨1, [isc (k + s.n)], H'⟩ ∧ ShE n0 n1 H H' := by
  have loop : ∀ (m i : Nat), i + m = s.n → ∀ Hc, ShE n0 n1 H Hc → ∃ H', R (.loop F.wmarkIntS 0) [ssc s, isc (k + i), isc (i : Int)] Hc = some ⟨2, [isc (k + s.n)], H'⟩ ∧ ShE n0 n1 H H' := by
    intro m
    induction m with
    | zero =>
      intro i hi Hc hE
      obtain rfl : i = s.n := by omega
      exact ⟨Hc, by rw [R_eq, e_wmarkIntS_0, lt_self]; rfl, hE⟩
    | succ m ih =>
      intro i hi Hc hE
      have hlt : i < s.n := by omega
      have hw : IntKind.wrap .i64 (k + (i : Int) + 1) = k + ((i + 1 : Nat) : Int) := by rw [wrap_id] <;> omega
      rcases (h.she hE).blk with e | ⟨b0, b1, cs, hb, hc⟩
      · omega
      rw [R_eq, e_wmarkIntS_0, lt_true hlt, w1 hlt (by omega), cond_true, hw, ixA_nat hlt]
      simp only [Option.bind_some, h.o, Nat.zero_add, Nat.mul_one]
      rw [putR_one hb (by omega)]
      simp only [Option.bind_some]
      exact ih (i + 1) (by omega) _ (hE.trans (ShE.set (by omega) b0 b1 hb (by simp)))
  obtain ⟨H', e, hE⟩ := loop s.n 0 (by omega) H (ShE.refl _ _ _)
  have e : R (.loop F.wmarkIntS 0) [ssc s, isc (k + (0 : Int)), isc 0] H = some ⟨2, [isc (k + s.n)], H'⟩ := e
  rw [Int.add_zero] at e
  exact ⟨H', by rw [R_eq, e_wmarkIntS, e]; rfl, hE⟩
end Go.Abs
/- Pure: slices of tensors: how many places have a digit zero; steps of offsets. -/
namespace Go.Abs
set_option linter.all false

def cnt (p : Nat → Bool) : Nat → Nat
  | 0 => 0
  | n + 1 => cnt p n + if p n then 1 else 0
theorem cnt_congr {p q : Nat → Bool} : ∀ {n : Nat}, (∀ k, k < n → p k = q k) → cnt p n = cnt q n
  | 0, _ => rfl
  | n + 1, h => by simp only [cnt]; rw [cnt_congr fun k hk => h k (by omega), h n (by omega)]
theorem cnt_add (p : Nat → Bool) (a : Nat) : ∀ b, cnt p (a + b) = cnt p a + cnt (fun k => p (a + k)) b
  | 0 => rfl
  | b + 1 => by rw [← Nat.add_assoc]; simp only [cnt]; rw [cnt_add p a b]; omega
theorem cnt_const (b : Bool) : ∀ n, cnt (fun _ => b) n = if b then n else 0
  | 0 => by cases b <;> rfl
  | n + 1 => by simp only [cnt]; rw [cnt_const b n]; cases b <;> simp
theorem cnt_le (p : Nat → Bool) : ∀ n, cnt p n ≤ n
  | 0 => Nat.le_refl _
  | n + 1 => by simp only [cnt]; have := cnt_le p n; split <;> omega
theorem cnt_mod {d : Nat} (hd : 1 ≤ d) : ∀ M, cnt (fun n => n % d == 0) (d * M) = M
  | 0 => rfl
  | M + 1 => by
    rw [Nat.mul_add, Nat.mul_one, cnt_add, cnt_mod hd M]
    have h1 : cnt (fun k => (d * M + k) % d == 0) d = cnt (fun k => k == 0) d := cnt_congr fun k hk => by
      rw [Nat.mul_add_mod, Nat.mod_eq_of_lt hk]
    rw [h1]
    have h2 : ∀ n, cnt (fun k => k == 0) (n + 1) = 1 := by
      intro n
      induction n with
      | zero => rfl
      | succ n ih => rw [cnt, ih]; simp
    obtain ⟨n, rfl⟩ : ∃ n, d = n + 1 := ⟨d - 1, by omega⟩
    rw [h2]
theorem cnt_div {d : Nat} (q : Nat → Bool) (hd : 1 ≤ d) : ∀ M, cnt (fun n => q (n / d)) (d * M) = d * cnt q M
  | 0 => rfl
  | M + 1 => by
    rw [Nat.mul_add, Nat.mul_one, cnt_add, cnt_div q hd M]
    have h1 : cnt (fun k => q ((d * M + k) / d)) d = cnt (fun _ => q M) d := cnt_congr fun k hk => by
      rw [Nat.mul_add_div hd, Nat.div_eq_of_lt hk]; rfl
    rw [h1, cnt_const]
    simp only [cnt]
    split <;> simp [Nat.mul_add]
theorem cnt_idxR : ∀ {r : List Int} {j : Nat}, (∀ d ∈ r, 1 ≤ d) → j < r.length → (cnt (fun n => (idxR r (n : Int)).getD j 0 == 0) (prd r).toNat : Int) = prd (r.eraseIdx j)
  | [], _, _, hj => by simp at hj
  | d :: r, j, h, hj => by
    have hd := h d List.mem_cons_self
    have hr : ∀ x ∈ r, 1 ≤ x := fun x hx => h x (List.mem_cons_of_mem _ hx)
    have hp := prd_pos hr
    obtain ⟨e, rfl⟩ : ∃ e : Nat, d = (e : Int) := ⟨d.toNat, by omega⟩
    have he : 1 ≤ e := by omega
    obtain ⟨M, hM⟩ : ∃ M : Nat, prd r = (M : Int) := ⟨(prd r).toNat, by omega⟩
    have hN : (prd ((e : Int) :: r)).toNat = e * M := by
      simp only [prd, hM, ← Int.natCast_mul, Int.toNat_natCast]
    rw [hN]
    cases j with
    | zero =>
      have : cnt (fun n => (idxR ((e : Int) :: r) (n : Int)).getD 0 0 == 0) (e * M) = cnt (fun n => n % e == 0) (e * M) := cnt_congr fun k hk => by
        simp only [idxR, List.getD_cons_zero]
        rw [← Int.natCast_emod]
        by_cases hz : k % e = 0
        · simp [hz]
        · have h1 : (((k % e : Nat) : Int) == 0) = false := by simp only [beq_eq_false_iff_ne, ne_eq]; omega
          have h2 : (k % e == 0) = false := by simpa using hz
          rw [h1, h2]
      rw [this, cnt_mod he, List.eraseIdx_cons_zero, hM]
    | succ j =>
      have ih := cnt_idxR (r := r) (j := j) hr (by simpa using hj)
      have : cnt (fun n => (idxR ((e : Int) :: r) (n : Int)).getD (j + 1) 0 == 0) (e * M) = cnt (fun n => (fun m : Nat => (idxR r (m : Int)).getD j 0 == 0) (n / e)) (e * M) := cnt_congr fun k hk => by
        simp only [idxR, List.getD_cons_succ, Int.natCast_ediv]
      rw [this, cnt_div (fun m : Nat => (idxR r (m : Int)).getD j 0 == 0) he M]
      rw [hM, Int.toNat_natCast] at ih
      rw [List.eraseIdx_cons_succ, prd, ← ih, Int.natCast_mul]
theorem erase_rev {α : Type} {l : List α} {j : Nat} (h : j < l.length) : (l.reverse.eraseIdx (l.length - 1 - j)) = (l.eraseIdx j).reverse := by
  refine List.ext_getElem? fun i => ?_
  have hl : (l.eraseIdx j).length = l.length - 1 := List.length_eraseIdx_of_lt h
  rcases Nat.lt_or_ge i (l.length - 1) with hi | hi
  · rw [List.getElem?_reverse (by omega), hl, List.getElem?_eraseIdx, List.getElem?_eraseIdx]
    by_cases h1 : i < l.length - 1 - j
    · rw [if_pos h1, if_neg (by omega), List.getElem?_reverse (by omega)]
      congr 1; omega
    · rw [if_neg h1, if_pos (by omega), List.getElem?_reverse (by omega)]
      congr 1; omega
  · rw [List.getElem?_eq_none (by rw [List.length_eraseIdx_of_lt (by simp; omega)]; simpa using hi), List.getElem?_eq_none (by rw [List.length_reverse]; omega)]
theorem getD_rev {l : List Int} {j : Nat} (h : j < l.length) (x : Int) : l.reverse.getD (l.length - 1 - j) x = l.getD j x := by
  simp only [List.getD_eq_getElem?_getD]
  rw [List.getElem?_reverse (by omega)]
  congr 2; omega
/-- How many places have the digit zero at an axis. -/
theorem cnt_idxF {D : List Int} {j : Nat} (h : ∀ d ∈ D, 1 ≤ d) (hj : j < D.length) : (cnt (fun n => (idxF D (n : Int)).getD j 0 == 0) (prd D).toNat : Int) = prd (D.eraseIdx j) := by
  have := cnt_idxR (r := D.reverse) (j := D.length - 1 - j) (fun d hd => h d (by simpa using hd)) (by simp; omega)
  rw [prd_rev, erase_rev hj, prd_rev] at this
  rw [← this]
  congr 1
  refine cnt_congr fun k hk => ?_
  unfold idxF
  have hl : (idxR D.reverse (k : Int)).length = D.length := by simp [idxR_len]
  have h2 := getD_rev (l := (idxR D.reverse (k : Int)).reverse) (j := j) (by simpa [hl] using hj) 0
  rw [List.reverse_reverse, List.length_reverse, hl] at h2
  rw [h2]

/-- The step of each axis, the last axis first. -/
def strR : Int → List Int → List Int
  | _, [] => []
  | s, d :: r => s :: strR (s * d) r
def dotL : List Int → List Int → Int
  | a :: l, b :: m => a * b + dotL l m
  | _, _ => 0
theorem strR_len : ∀ (s : Int) (r : List Int), (strR s r).length = r.length
  | _, [] => rfl
  | s, d :: r => by simp [strR, strR_len]
theorem dot_strR : ∀ {r x : List Int} (s : Int), x.length = r.length → dotL (strR s r) x = s * offR r x
  | [], [], s, _ => by simp [dotL, strR, offR]
  | d :: r, x :: xs, s, h => by
    simp only [strR, dotL, offR]
    rw [dot_strR (s * d) (by simpa using h), Int.mul_add, Int.mul_comm (offR r xs) d, Int.mul_assoc]
    omega
  | [], _ :: _, _, h => by simp at h
  | _ :: _, [], _, h => by simp at h
theorem dot_app : ∀ {a b c d : List Int}, a.length = b.length → dotL (a ++ c) (b ++ d) = dotL a b + dotL c d
  | [], [], c, d, _ => by simp [dotL]
  | x :: a, y :: b, c, d, h => by
    simp only [List.cons_append, dotL]
    rw [dot_app (by simpa using h)]; omega
  | [], _ :: _, _, _, h => by simp at h
  | _ :: _, [], _, _, h => by simp at h
theorem dot_rev : ∀ {a b : List Int}, a.length = b.length → dotL a.reverse b.reverse = dotL a b
  | [], [], _ => rfl
  | x :: a, y :: b, h => by
    have hl : a.length = b.length := by simpa using h
    rw [List.reverse_cons, List.reverse_cons, dot_app (by simpa using hl), dot_rev hl]
    simp only [dotL]; omega
  | [], _ :: _, h => by simp at h
  | _ :: _, [], h => by simp at h
def strF (D : List Int) : List Int := (strR 1 D.reverse).reverse
theorem strF_len (D : List Int) : (strF D).length = D.length := by simp [strF, strR_len]
theorem dot_strF {D I : List Int} (h : I.length = D.length) : dotL (strF D) I = offF D I := by
  have : dotL (strF D) I = dotL (strR 1 D.reverse) I.reverse := by
    rw [← dot_rev (a := strR 1 D.reverse) (b := I.reverse) (by simp [strR_len, h])]
    simp [strF]
  rw [this, dot_strR 1 (by simp [h])]
  simp [offF]
theorem dot_ins : ∀ {a b : List Int} {j : Nat}, a.length = b.length + 1 → j < a.length → dotL (a.eraseIdx j) b = dotL a (b.take j ++ 0 :: b.drop j)
  | x :: a, b, 0, h, _ => by simp [dotL]
  | x :: a, y :: b, j + 1, h, hj => by
    simp only [List.eraseIdx_cons_succ, List.take_succ_cons, List.drop_succ_cons, List.cons_append, dotL]
    rw [dot_ins (by simpa using h) (by simpa using hj)]
  | x :: a, [], j + 1, h, hj => by simp at h; subst h; simp at hj
  | [], _, _, h, _ => by simp at h
theorem fits_ins : ∀ {D I : List Int} {j : Nat}, fitsI (D.eraseIdx j) I → j < D.length → (∀ d ∈ D, 1 ≤ d) → fitsI D (I.take j ++ 0 :: I.drop j)
  | d :: D, I, 0, h, _, hd => by
    have := hd d List.mem_cons_self
    exact ⟨Int.le_refl _, by omega, h⟩
  | d :: D, x :: I, j + 1, h, hj, hd => by
    simp only [List.eraseIdx_cons_succ] at h
    exact ⟨h.1, h.2.1, fits_ins h.2.2 (by simpa using hj) fun y hy => hd y (List.mem_cons_of_mem _ hy)⟩
  | d :: D, [], j + 1, h, hj, hd => by simp [List.eraseIdx_cons_succ, fitsI] at h
  | [], _, _, _, hj, _ => by simp at hj
/-- An offset without an axis is a place of the tensor. -/
theorem dot_erase {D I : List Int} {j : Nat} (h : fitsI (D.eraseIdx j) I) (hj : j < D.length) (hd : ∀ d ∈ D, 1 ≤ d) : 0 ≤ dotL ((strF D).eraseIdx j) I ∧ dotL ((strF D).eraseIdx j) I < prd D := by
  have hf := fits_ins h hj hd
  have hl := fits_len h
  rw [List.length_eraseIdx_of_lt hj] at hl
  rw [dot_ins (by rw [strF_len]; omega) (by rw [strF_len]; exact hj), dot_strF (fits_len hf)]
  exact offF_range hf
theorem strR_ge : ∀ {r : List Int} {s : Int}, 1 ≤ s → (∀ d ∈ r, 1 ≤ d) → ∀ x ∈ strR s r, 1 ≤ x ∧ x ≤ s * prd r
  | [], s, _, _, x, hx => by simp [strR] at hx
  | d :: r, s, hs, h, x, hx => by
    have hd := h d List.mem_cons_self
    have hp := prd_pos (a := r) fun y hy => h y (List.mem_cons_of_mem _ hy)
    have hsd : s * 1 ≤ s * d := Int.mul_le_mul_of_nonneg_left hd (by omega)
    have e : s * prd (d :: r) = s * d * prd r := by simp only [prd]; rw [Int.mul_assoc]
    have h2 : s * d * 1 ≤ s * d * prd r := Int.mul_le_mul_of_nonneg_left hp (by omega)
    simp only [strR] at hx
    rcases List.mem_cons.1 hx with rfl | hx
    · exact ⟨hs, by omega⟩
    · have := strR_ge (s := s * d) (by omega) (fun y hy => h y (List.mem_cons_of_mem _ hy)) x hx
      rw [e]; exact this
theorem strF_ge {D : List Int} (h : ∀ d ∈ D, 1 ≤ d) : ∀ x ∈ strF D, 1 ≤ x ∧ x ≤ prd D := fun x hx => by
  have := strR_ge (r := D.reverse) (s := 1) (by omega) (fun d hd => h d (by simpa using hd)) x (by simpa [strF] using hx)
  rw [prd_rev, Int.one_mul] at this
  exact this
end Go.Abs
/- Pure: orders followed by numbers, what each step costs. -/
namespace Go.Abs
set_option linter.all false

def vp (v : List LE) : List (Int × List Int) := v.map fun t => (t.n, t.l)
def labW (W : List (Int × List Int)) (a : Int) : List Int := ((W.find? fun x => x.1 == a).map (·.2)).getD []
def dropW (a b : Int) (W : List (Int × List Int)) : List (Int × List Int) := W.filter fun x => x.1 != a && x.1 != b
def keptW (op : List Int) (W : List (Int × List Int)) (a b : Int) (x : Int) : Bool := (op.any fun y => x == y) || (dropW a b W).any fun t => t.2.any fun y => x == y
def resW (op : List Int) (W : List (Int × List Int)) (a b : Int) : List Int := (joinL (labW W a) (labW W b)).filter (keptW op W a b)
def stepW (op : List Int) (W : List (Int × List Int)) (nx : Int) (p : Sp) : List (Int × List Int) := dropW p.a p.b W ++ [(nx, resW op W p.a p.b)]
def costL (dm : Int → Int) (l : List Int) : Int := min (prd (l.map dm)) 1000000000
def costsW (op : List Int) (dm : Int → Int) : List (Int × List Int) → Int → List Sp → List Int
  | _, _, [] => []
  | W, nx, p :: ps => costL dm (joinL (labW W p.a) (labW W p.b)) :: costsW op dm (stepW op W nx p) (nx + 1) ps
def sizesW (op : List Int) (dm : Int → Int) : List (Int × List Int) → Int → List Sp → List Int
  | _, _, [] => []
  | W, nx, p :: ps => costL dm (resW op W p.a p.b) :: sizesW op dm (stepW op W nx p) (nx + 1) ps
def peakW (op : List Int) (dm : Int → Int) (W : List (Int × List Int)) (nx : Int) (ps : List Sp) : Int := (W.map (fun t => costL dm t.2) ++ sizesW op dm W nx ps).foldl max 1
def costW (op : List Int) (dm : Int → Int) (W : List (Int × List Int)) (nx : Int) (ps : List Sp) : Int := min (costsW op dm W nx ps).sum 1000000000

theorem colF_filter (p : Int → Bool) : ∀ (l : List Int) (i : Nat), colF (fun _ x => if p x then some x else none) l i = l.filter p
  | [], _ => rfl
  | x :: l, i => by
    simp only [colF, List.filter_cons]
    cases p x <;> simp [colF_filter p l (i + 1)]
theorem vp_lab : ∀ (v : List LE) (a : Int) (k i : Nat), placeF v a k = (i : Int) → k ≤ i → ∀ h : i - k < v.length, labW (vp v) a = v[i - k].l
  | [], a, k, i, hp, hk, h => by simp at h
  | t :: v, a, k, i, hp, hk, h => by
    unfold placeF at hp
    unfold labW vp
    simp only [List.map_cons, List.find?_cons]
    by_cases e : (t.n == a) = true
    · rw [if_pos e] at hp
      rw [e]
      have : i = k := by omega
      subst this
      simp
    · rw [if_neg e] at hp
      have e : (t.n == a) = false := by simpa using e
      rw [e]
      have hk1 : k + 1 ≤ i := by
        rcases placeF_lo v a (k + 1) with h1 | h1
        · omega
        · omega
      have ih := vp_lab v a (k + 1) i hp hk1 (by simp at h; omega)
      unfold labW vp at ih
      rw [ih]
      congr 1
      rw [List.getElem_cons]
      rw [dif_neg (by omega)]
      congr 1
theorem vp_drop {i j : Nat} {a b : Int} : ∀ (v : List LE) (k : Nat), (∀ (m : Nat) t, v[m]? = some t → ((m + k = i ↔ t.n = a) ∧ (m + k = j ↔ t.n = b))) → vp (dropF i j v k) = dropW a b (vp v)
  | [], k, _ => rfl
  | t :: v, k, h => by
    have h0 := h 0 t rfl
    have ih := vp_drop (i := i) (j := j) (a := a) (b := b) v (k + 1) fun m u hm => by
      have := h (m + 1) u (by simpa using hm)
      rw [show m + 1 + k = m + (k + 1) by omega] at this
      exact this
    unfold dropF dropW vp
    simp only [List.map_cons, List.filter_cons]
    have e1 : (k != i) = (t.n != a) := by
      by_cases hh : t.n = a
      · have := h0.1.2 hh
        have hk : k = i := by omega
        have h1 : (k != i) = false := by simp [hk]
        have h2 : (t.n != a) = false := by simp [hh]
        rw [h1, h2]
      · have : ¬ k = i := fun e => hh (h0.1.1 (by omega))
        rw [bne_iff_ne.2 this, bne_iff_ne.2 hh]
    have e2 : (k != j) = (t.n != b) := by
      by_cases hh : t.n = b
      · have := h0.2.2 hh
        have hk : k = j := by omega
        have h1 : (k != j) = false := by simp [hk]
        have h2 : (t.n != b) = false := by simp [hh]
        rw [h1, h2]
      · have : ¬ k = j := fun e => hh (h0.2.1 (by omega))
        rw [bne_iff_ne.2 this, bne_iff_ne.2 hh]
    unfold vp dropW at ih
    rw [e1, e2]
    cases hc : (t.n != a && t.n != b) with
    | true => simp only [if_true, List.map_cons]; rw [ih]
    | false => simp only [Bool.false_eq_true, if_false]; exact ih
theorem vp_kept {i j : Nat} (x : Int) : ∀ (v : List LE) (k : Nat), keptF x i j v k = (vp (dropF i j v k)).any fun t => t.2.any fun y => x == y
  | [], k => rfl
  | t :: v, k => by
    unfold keptF dropF
    rw [vp_kept x v (k + 1)]
    cases hc : (k != i && k != j) with
    | true =>
      simp only [Bool.true_and, if_true, vp, List.map_cons, List.any_cons]
    | false => simp only [Bool.false_and, Bool.false_or, Bool.false_eq_true, if_false]
theorem vp_at {v : List LE} (hd : (v.map (·.n)).Nodup) {p q : Nat} {a b : Int} (hp : p < v.length) (hq : q < v.length) (ha : v[p].n = a) (hb : v[q].n = b) :
    ∀ (m : Nat) t, v[m]? = some t → ((m + 0 = p ↔ t.n = a) ∧ (m + 0 = q ↔ t.n = b)) := fun m t hm => ⟨nodup_at hd hp ha m t hm, nodup_at hd hq hb m t hm⟩
theorem vp_res {op : List Int} {v : List LE} (hd : (v.map (·.n)).Nodup) {p q : Nat} {a b : Int} (hp : p < v.length) (hq : q < v.length) (ha : v[p].n = a) (hb : v[q].n = b) (pa : placeF v a 0 = (p : Int)) (pb : placeF v b 0 = (q : Int)) :
    resL op v p q = resW op (vp v) a b := by
  unfold resL resW
  rw [getD_le hp, getD_le hq, colF_filter, vp_lab v a 0 p pa (by omega) (by simpa using hp), vp_lab v b 0 q pb (by omega) (by simpa using hq)]
  simp only [Nat.sub_zero]
  congr 1
  funext x
  unfold keptW
  rw [vp_kept, vp_drop v 0 (vp_at hd hp hq ha hb)]
theorem vp_step {op : List Int} {v : List LE} (hd : (v.map (·.n)).Nodup) {p q nx : Nat} {g : Sp} (s : Sl) (hp : p < v.length) (hq : q < v.length) (ha : v[p].n = g.a) (hb : v[q].n = g.b) (pa : placeF v g.a 0 = (p : Int)) (pb : placeF v g.b 0 = (q : Int)) :
    vp (stepV op v nx p q s) = stepW op (vp v) nx g := by
  unfold stepV stepW
  rw [← vp_drop v 0 (vp_at hd hp hq ha hb), ← vp_res hd hp hq ha hb pa pb]
  simp [vp]
theorem vp_join {v : List LE} {p q : Nat} {a b : Int} (hp : p < v.length) (hq : q < v.length) (pa : placeF v a 0 = (p : Int)) (pb : placeF v b 0 = (q : Int)) : joinL v[p].l v[q].l = joinL (labW (vp v) a) (labW (vp v) b) := by
  rw [vp_lab v a 0 p pa (by omega) (by simpa using hp), vp_lab v b 0 q pb (by omega) (by simpa using hq)]
  simp

/-- A product that is cut, step by step. -/
def capF (lim : Int) : Int → List Int → Int
  | a, [] => a
  | a, d :: l => capF lim (min (a * d) lim) l
theorem capF_eq (lim : Int) : ∀ (l : List Int) (a : Int), 1 ≤ a → a ≤ lim → (∀ d ∈ l, 1 ≤ d) → capF lim a l = min (a * prd l) lim
  | [], a, h1, h2, _ => by simp only [capF, prd]; omega
  | d :: l, a, h1, h2, hd => by
    have hd1 := hd d List.mem_cons_self
    have hp := prd_pos (a := l) fun x hx => hd x (List.mem_cons_of_mem _ hx)
    have h3 : a * 1 ≤ a * d := Int.mul_le_mul_of_nonneg_left hd1 (by omega)
    have e : a * prd (d :: l) = a * d * prd l := by simp only [prd]; rw [Int.mul_assoc]
    simp only [capF]
    rw [capF_eq lim l _ (by omega) (by omega) fun x hx => hd x (List.mem_cons_of_mem _ hx), e]
    by_cases hc : a * d ≤ lim
    · rw [Int.min_eq_left hc]
    · rw [Int.min_eq_right (show lim ≤ a * d by omega)]
      have h4 : lim * 1 ≤ lim * prd l := Int.mul_le_mul_of_nonneg_left hp (by omega)
      have h5 : a * d * 1 ≤ a * d * prd l := Int.mul_le_mul_of_nonneg_left hp (by omega)
      omega
end Go.Abs
/- Plans: small contracts. -/
namespace Go.Abs
set_option linter.all false
set_option maxRecDepth 10000

/-- impl.cappedProduct -/
theorem c_icappedProduct {H : AH} {s : Sl} {l : List Int} (h : IS H s l) (hm : l.length ≤ 1048576) (hd : ∀ d ∈ l, 1 ≤ d ∧ d ≤ 1048576) : R (.fn F.icappedProduct) [ssc s, isc 1000000000] H = some ⟨1, [isc (min (prd l) 1000000000)], H⟩ := by
  have := loopS (F := fun (a : Int) (i : Nat) => R (.loop F.icappedProduct 0) [isc 1000000000, isc a, ssc s, isc (l.length : Int), isc (i : Int)] H) (l := l) (fun a _ => 1 ≤ a ∧ a ≤ 1000000000) (fun a l _ => some ⟨2, [isc (capF 1000000000 a l)], H⟩)
    (fun a _ => by rw [R_eq, e_icappedProduct_0, lt_self]; rfl) (fun a i hi r ha ih => by
      rw [R_eq, e_icappedProduct_0, h.ldk hi, lt_true hi, w1 hi (by omega)]
      have hdi := hd l[i] (List.getElem_mem hi)
      have h1 : 1 * 1 ≤ a * l[i] := Int.mul_le_mul ha.1 hdi.1 (by omega) (by omega)
      have h2 : a * l[i] ≤ 1000000000 * 1048576 := Int.mul_le_mul ha.2 hdi.2 (by omega) (by omega)
      have e1 : IntKind.wrap .i64 (a * l[i]) = a * l[i] := by rw [wrap_id] <;> omega
      have e2 : (if (1000000000 : Int) < a * l[i] then 1000000000 else a * l[i]) = min (a * l[i]) 1000000000 := by split <;> omega
      simp only [cond_true, e1, e2, capF]
      exact ih _ (by omega)) 1 (by omega)
  have this : R (.loop F.icappedProduct 0) [isc 1000000000, isc 1, ssc s, isc (l.length : Int), isc 0] H = some ⟨2, [isc (capF 1000000000 1 l)], H⟩ := this
  rw [R_eq, e_icappedProduct, h.n, this, capF_eq 1000000000 l 1 (by omega) (by omega) fun d hx => (hd d hx).1, Int.one_mul]
  rfl

/-- The sizes of a state's labels. -/
structure DmOk (D : List Int) (dm : Int → Int) : Prop where
  len : D.length = 100
  get : ∀ y : Int, 0 ≤ y → y ≤ 99 → D.getD y.toNat 0 = dm y
/-- Labels whose sizes are known. -/
def LabsOk (dm : Int → Int) (l : List Int) : Prop := ∀ x ∈ l, 0 ≤ x ∧ x ≤ 99 ∧ 1 ≤ dm x ∧ dm x ≤ 8
/-- impl.DimOf, of a valid network and a label in range -/
theorem c_iDimOf {H : AH} {s u : Sl} {n : Nw} (h : NS H s u n) (hn : netB n = true) {x : Int} (h0 : 0 ≤ x) (h1 : x ≤ 99) :
    ∃ H', R (.fn F.iDimOf) [npv n.r s u, isc x] H = some ⟨1, [isc (dimF n.ts x)], H'⟩ ∧ Go.Abs.Le H H' := by
  obtain ⟨b1, b2, b3⟩ := netB_small hn
  obtain ⟨H1, e1, l1⟩ := c_iNetworkOk h (by omega)
  rw [hn] at e1
  obtain ⟨D, e2, hD, hd⟩ := c_dims (h.le l1) hn
  refine ⟨H1, ?_, l1⟩
  have hdl : (ics D).length = 100 := by simp [hD]
  have hz : (zc P Y.t100_int).length = 100 := by rw [zc_dims]; simp
  have e6 : setAll (zc P Y.t100_int) 0 (ics D) = ics D := setAll_full (by rw [hdl, hz])
  rw [R_eq, e_iDimOf, e1]
  simp only [Option.bind_some, one_bool, Bool.not_true, cond_false, decide_eq_false (show ¬ x < 0 by omega), decide_eq_false (show ¬ x > 99 by omega)]
  rw [e2]
  simp only [Option.bind_some, lenP, nthP, PV.agg?, PV.sc?, boolAt, List.length_cons, List.length_nil, if_true, List.getElem?_cons_zero, List.getElem?_cons_succ, hdl, decide_true, cond_true, hz, Nat.zero_add, Nat.le_refl, e6]
  rw [show (Nat.beq 100 100) = true from rfl, cond_true, ixA_100 h0 h1]
  simp only [Option.bind_some]
  rw [int_at (by omega), hd x h0 h1]
  rfl
/-- impl.axisOf -/
theorem c_iaxisOf {H : AH} {a b c : Sl} {l : List Int} (h : IS H a l) (hm : l.length ≤ 1048576) (n : Int) : R (.fn F.iaxisOf) [tpv a b c, isc n] H = some ⟨1, [isc (findF l n 0)], H⟩ := by
  rw [R_eq, e_iaxisOf, h.n]
  have := loopG (F := fun i : Nat => R (.loop F.iaxisOf 0) [isc n, ssc a, isc (l.length : Int), isc (i : Int)] H) (l := l) (fun l i => if findF l n i = -1 then some ⟨2, [], H⟩ else some ⟨1, [isc (findF l n i)], H⟩)
    (by rw [R_eq, e_iaxisOf_0, lt_self]; rfl) (fun i hi r hr => by
      rw [R_eq, e_iaxisOf_0, h.ldk hi, lt_true hi, w1 hi (by omega)]
      unfold findF
      rcases Bool.eq_false_or_eq_true (l[i] == n) with hb | hb
      · simp only [hb, cond_true, if_true]
        rw [if_neg (by omega)]
      · simp only [hb, cond_true, cond_false, Bool.false_eq_true, if_false]
        exact hr)
  have this : R (.loop F.iaxisOf 0) [isc n, ssc a, isc (l.length : Int), isc 0] H = _ := this
  rw [this]
  split
  · rename_i e; rw [e]; rfl
  · rfl
/-- impl.withoutInt -/
theorem c_iwithoutInt {H : AH} {s : Sl} {l : List Int} (h : IS H s l) (hl : l.length ≤ 1048576) (x : Int) :
    ∃ s' H', R (.fn F.iwithoutInt) [ssc s, isc x] H = some ⟨1, [ssc s'], H'⟩ ∧ Own H.length H' s' (l.filter fun y => y != x) ∧ Go.Abs.Le H H' := by
  have cl := collect (l := l) (H0 := H) (F := fun i c Hc => R (.loop F.iwithoutInt 0) [isc x, ssc c, ssc s, isc (l.length : Int), isc (i : Int)] Hc) (fin := fun c Hc => some ⟨2, [ssc c], Hc⟩) (fun _ y => if y != x then some y else none)
    (fun c Hc => by rw [R_eq, e_iwithoutInt_0, lt_self]; rfl)
    (fun i hi c Hc acc hle ho ha => by
      by_cases h0 : (l[i] != x) = true
      · obtain ⟨s', H', e, o, l⟩ := push_le hle ho (by omega) l[i]
        refine ⟨s', H', ?_, by rw [if_pos h0]; simpa using o, l⟩
        rw [R_eq, e_iwithoutInt_0, lt_true hi, w1 hi (by omega), cond_true, (h.le hle).ldk hi, h0, cond_true]
        rw [e]
      · refine ⟨c, Hc, ?_, by rw [if_neg h0]; simpa using ho, hle⟩
        rw [R_eq, e_iwithoutInt_0, lt_true hi, w1 hi (by omega), cond_true, (h.le hle).ldk hi, Bool.eq_false_iff.2 h0, cond_false])
    (s0 := ⟨0, 0, 0, 0, true⟩) (H := H) (Go.Abs.Le.refl _) (Own.nil _ _ _)
  obtain ⟨s', H', e, o, l1⟩ := cl
  rw [colF_filter (fun y => y != x)] at o
  refine ⟨s', H', ?_, o, l1⟩
  have e : R (.loop F.iwithoutInt 0) [isc x, ssc ⟨0, 0, 0, 0, true⟩, ssc s, isc (l.length : Int), isc 0] H = _ := e
  rw [R_eq, e_iwithoutInt, h.n, e]
  rfl
/-- impl.dotOf -/
theorem c_idotOf {H : AH} {a b : Sl} {l m : List Int} (ha : IS H a l) (hb : IS H b m) (hlm : l.length = m.length) (hl : l.length ≤ 12) (hx : ∀ x ∈ l, 0 ≤ x ∧ x ≤ 4096) (hy : ∀ x ∈ m, 0 ≤ x ∧ x ≤ 8) :
    R (.fn F.idotOf) [ssc a, ssc b] H = some ⟨1, [isc (dotL l m)], H⟩ := by
  have loop : ∀ (k i : Nat), i + k = l.length → ∀ x : Int, 0 ≤ x → x ≤ 32768 * i → R (.loop F.idotOf 0) [ssc a, ssc b, isc x, isc (l.length : Int), isc (i : Int)] H = some ⟨2, [isc (x + dotL (l.drop i) (m.drop i))], H⟩ := by
    intro k
    induction k with
    | zero =>
      intro i hi x _ _
      obtain rfl : i = l.length := by omega
      rw [R_eq, e_idotOf_0, lt_self, List.drop_eq_nil_of_le (Nat.le_refl _)]
      simp [dotL]
    | succ k ih =>
      intro i hi x h0 h1
      have h2 : i < l.length := by omega
      have h3 : i < m.length := by omega
      rw [R_eq, e_idotOf_0, lt_true h2, w1 h2 (by omega), cond_true, ha.ldk h2, hb.ldk h3]
      have q1 := hx l[i] (List.getElem_mem h2)
      have q2 := hy m[i] (List.getElem_mem h3)
      have q3 : 0 ≤ l[i] * m[i] := Int.mul_nonneg q1.1 q2.1
      have q4 : l[i] * m[i] ≤ 4096 * 8 := Int.mul_le_mul q1.2 q2.2 q2.1 (by omega)
      have w2 : IntKind.wrap .i64 (l[i] * m[i]) = l[i] * m[i] := by rw [wrap_id] <;> omega
      have w3 : IntKind.wrap .i64 (x + l[i] * m[i]) = x + l[i] * m[i] := by rw [wrap_id] <;> omega
      rw [w2, w3, ih (i + 1) (by omega) _ (by omega) (by omega), List.drop_eq_getElem_cons h2, List.drop_eq_getElem_cons h3]
      simp only [dotL]
      rw [Int.add_assoc]
  have := loop l.length 0 (by omega) 0 (by omega) (by omega)
  have this : R (.loop F.idotOf 0) [ssc a, ssc b, isc 0, isc (l.length : Int), isc 0] H = _ := this
  rw [R_eq, e_idotOf, ha.n, this]
  simp only [List.drop_zero, Int.zero_add]
  rfl
end Go.Abs
/- Plans: what an order costs (impl). -/
namespace Go.Abs
set_option linter.all false
set_option maxRecDepth 10000

/-- impl.size -/
theorem c_size {H0 H : AH} {bs : Nat} {D op : List Int} {so sl : Sl} {next : Nat} {v : List LE} (h : OS H0 H bs D op so sl next v) {dm : Int → Int} (hd : DmOk D dm) {s : Sl} {l : List Int} (hs : IS H s l) (hl : l.length ≤ 100000) (hL : LabsOk dm l) :
    ∃ H', R (.fn F.x__impl_orderState__size) [.sc (.hp bs 0), ssc s] H = some ⟨1, [isc (costL dm l)], H'⟩ ∧ Go.Abs.Le H H' := by
  have hx : ∀ x ∈ l, 0 ≤ x ∧ x ≤ 99 := fun x hx => ⟨(hL x hx).1, (hL x hx).2.1⟩
  obtain ⟨a, b, H1, e1, l1, o1, o2⟩ := c_iaxesOf hd.len hs hl hx
  have hmap : (l.map fun x => D.getD x.toNat 0) = l.map dm := List.map_congr_left fun x hxm => hd.get x (hx x hxm).1 (hx x hxm).2
  rw [hmap] at o2
  have hdl : (ics D).length = 100 := by simp [hd.len]
  refine ⟨H1, ?_, l1⟩
  have hlen : decide (0 + 0 + 100 ≤ (ics D ++ [Sc.sl so, .sl sl, .int .i64 (next : Int)]).length) = true := decide_eq_true (by simp [hd.len])
  have htk : ((ics D ++ [Sc.sl so, .sl sl, .int .i64 (next : Int)]).drop (0 + 0)).take 100 = ics D := by
    rw [List.drop_zero, List.take_append_of_le_length (by omega), List.take_of_length_le (by omega)]
  rw [R_eq, e_x__impl_orderState__size, h.rd]
  simp only [Option.bind_some]
  rw [hlen, cond_true, htk, e1]
  simp only [Option.bind_some, o_sss]
  rw [c_icappedProduct o2 (by simp; omega) fun d hd' => by
    obtain ⟨x, hxm, rfl⟩ := List.mem_map.1 hd'
    have := hL x hxm; omega]
  simp only [Option.bind_some, one_int]
  rfl
def LvOk (dm : Int → Int) (v : List LE) : Prop := ∀ t ∈ v, LabsOk dm t.l
theorem LabsOk.join {dm : Int → Int} {a b : List Int} (ha : LabsOk dm a) (hb : LabsOk dm b) : LabsOk dm (joinL a b) := fun x hx => by
  unfold joinL at hx
  rcases List.mem_append.1 hx with h | h
  · exact ha x h
  · obtain ⟨j, y, hy, e⟩ := colF_mem h
    split at e
    · cases e
    · cases e; exact hb _ hy
theorem resL_sub {op : List Int} {v : List LE} {i j : Nat} (hi : i < v.length) (hj : j < v.length) : ∀ x ∈ resL op v i j, x ∈ joinL v[i].l v[j].l := fun x hx => by
  unfold resL at hx
  rw [getD_le hi, getD_le hj] at hx
  obtain ⟨k, y, hy, e⟩ := colF_mem hx
  split at e
  · cases e; exact hy
  · cases e
theorem LvOk.step {dm : Int → Int} {op : List Int} {v : List LE} {next i j : Nat} {s : Sl} (h : LvOk dm v) (hi : i < v.length) (hj : j < v.length) : LvOk dm (stepV op v next i j s) := fun t ht => by
  unfold stepV at ht
  rcases List.mem_append.1 ht with h1 | h1
  · exact h t ((dropF_sub i j v 0).subset h1)
  · simp at h1; subst h1
    exact fun x hx => (LabsOk.join (h _ (List.getElem_mem hi)) (h _ (List.getElem_mem hj))) x (resL_sub hi hj x hx)
theorem stepV_last {op : List Int} {v : List LE} {next i j : Nat} {s : Sl} : ∃ h : (stepV op v next i j s).length - 1 < (stepV op v next i j s).length, (stepV op v next i j s)[(stepV op v next i j s).length - 1].l = resL op v i j := by
  unfold stepV
  refine ⟨by simp, ?_⟩
  simp

/-- What a good order does to the state. -/
theorem order_at {ns : List Int} {v : List LE} {nx : Int} {p : Sp} {ps : List Sp} (hns : ns = v.map (·.n)) (h : orderN ns nx (p :: ps) = true) : p.a ∈ v.map (·.n) ∧ p.b ∈ v.map (·.n) ∧ p.a < p.b ∧ orderN (ns.filter (fun x => x != p.a && x != p.b) ++ [nx]) (nx + 1) ps = true := by
  subst hns
  unfold orderN at h
  split at h
  · rename_i hc; exact ⟨hc.1, hc.2.1, hc.2.2, h⟩
  · cases h
theorem stepV_nums {op : List Int} {v : List LE} (hd : (v.map (·.n)).Nodup) {p q nx : Nat} {g : Sp} (s : Sl) (hp : p < v.length) (hq : q < v.length) (ha : v[p].n = g.a) (hb : v[q].n = g.b) :
    (stepV op v nx p q s).map (·.n) = (v.map (·.n)).filter (fun x => x != g.a && x != g.b) ++ [(nx : Int)] := by
  unfold stepV
  rw [List.map_append, dropF_nums v 0 hd (vp_at hd hp hq ha hb)]
  rfl
theorem max_if (a b : Int) : (if a > b then a else b) = max b a := by split <;> omega

/-- impl.OrderPeak: the tensors that are there -/
theorem c_iOrderPeak_0 {H0 : AH} {bs : Nat} {D op : List Int} {so sl : Sl} {next : Nat} {v : List LE} {dm : Int → Int} (hdm : DmOk D dm) (hv : SmallV v) (hL : LvOk dm v) :
    ∀ (k i : Nat) (H : AH) (m : Int), i + k = v.length → OS H0 H bs D op so sl next v →
      ∃ H', R (.loop F.iOrderPeak 0) [.sc (.hp bs 0), isc m, ssc sl, isc (v.length : Int), isc (i : Int)] H = some ⟨2, [isc (((v.drop i).map fun t => costL dm t.l).foldl max m)], H'⟩ ∧ Go.Abs.Le H H'
  | 0, i, H, m, hi, hO => by
    obtain rfl : i = v.length := by omega
    exact ⟨H, by rw [R_eq, e_iOrderPeak_0, lt_self, List.drop_eq_nil_of_le (Nat.le_refl _)]; rfl, Go.Abs.Le.refl _⟩
  | k + 1, i, H, m, hi, hO => by
    have hlt : i < v.length := by omega
    have hv1 := hv.1
    have hm := hv.2 v[i] (List.getElem_mem hlt)
    obtain ⟨H1, e1, l1⟩ := c_size hO hdm (hO.lab (List.getElem_mem hlt)) (by omega) (hL _ (List.getElem_mem hlt))
    obtain ⟨H2, e2, l2⟩ := c_iOrderPeak_0 hdm hv hL k (i + 1) H1 (max m (costL dm v[i].l)) (by omega) (hO.ext l1)
    refine ⟨H2, ?_, l1.trans l2⟩
    rw [R_eq, e_iOrderPeak_0, lt_true hlt, w1 hlt (by omega), cond_true, hO.out.lr.ld hlt, e1]
    simp only [Option.bind_some, one_int, max_if]
    rw [e2, List.drop_eq_getElem_cons hlt]
    rfl
/-- impl.OrderPeak: the steps -/
theorem c_iOrderPeak_1 {H0 : AH} {bs : Nat} {D op : List Int} {so sp : Sl} {ps : List Sp} {dm : Int → Int} (hp : S2 H0 sp ps) (hpl : ps.length ≤ 1024) (ho : op.length ≤ 1024) (hdm : DmOk D dm) :
    ∀ (k i : Nat) (H : AH) (sl : Sl) (next : Nat) (v : List LE) (m : Int), i + k = ps.length → OS H0 H bs D op so sl next v → v.length ≤ 1024 → totV v ≤ 1000 → next ≤ 2048 + i → (v.map (·.n)).Nodup → (∀ t ∈ v, t.n < (next : Int)) → LvOk dm v → orderN (v.map (·.n)) next (ps.drop i) = true →
      ∃ H', R (.loop F.iOrderPeak 1) [.sc (.hp bs 0), isc m, ssc sp, isc (ps.length : Int), isc (i : Int)] H = some ⟨4, [isc ((sizesW op dm (vp v) next (ps.drop i)).foldl max m)], H'⟩ ∧ Go.Abs.Le H0 H'
  | 0, i, H, sl, next, v, m, hi, hO, hv, ht, hn, hd, hx, hL, hord => by
    obtain rfl : i = ps.length := by omega
    exact ⟨H, by rw [R_eq, e_iOrderPeak_1, lt_self, List.drop_eq_nil_of_le (Nat.le_refl _)]; rfl, hO.fr.le⟩
  | k + 1, i, H, sl, next, v, m, hi, hO, hv, ht, hn, hd, hx, hL, hord => by
    have hlt : i < ps.length := by omega
    have hsv : SmallV v := ⟨hv, fun t h => by have := totV_mem h; omega⟩
    rw [List.drop_eq_getElem_cons hlt] at hord ⊢
    obtain ⟨q1, q2, q3, q4⟩ := order_at rfl hord
    rcases c_follow hO hsv ho (by omega) ps[i].a ps[i].b with ⟨hbad, e⟩ | ⟨p, q, hpa, hqb, hab, hpl', hql', sl', s, H', e, O⟩
    · exfalso
      rcases hbad with h | h | h
      · exact (placeF_neg v _ 0).1 h q1
      · exact (placeF_neg v _ 0).1 h q2
      · omega
    · obtain ⟨hp1, _, hp2⟩ := placeF_at v _ 0 p hpa
      obtain ⟨hq1, _, hq2⟩ := placeF_at v _ 0 q hqb
      simp only [Nat.sub_zero] at hp2 hq2
      have hpq : p ≠ q := fun e => by subst e; omega
      obtain ⟨g1, g2⟩ := stepV_tot op (next := next) s hpl' hql' hpq
      have hnums := stepV_nums (op := op) (nx := next) hd s hpl' hql' hp2 hq2
      have hL' := LvOk.step (op := op) (next := next) (s := s) hL hpl' hql'
      obtain ⟨hlast, hlab⟩ := stepV_last (op := op) (v := v) (next := next) (i := p) (j := q) (s := s)
      have hmem := List.getElem_mem hlast
      have htot := totV_mem hmem
      obtain ⟨H2, e2, l2⟩ := c_size O hdm (O.lab hmem) (by omega) (hL' _ hmem)
      have hd' : ((stepV op v next p q s).map (·.n)).Nodup := by
        rw [hnums]
        refine List.nodup_append.2 ⟨hd.filter _, by simp, fun a ha b hb => ?_⟩
        simp at hb; subst hb
        obtain ⟨t, ht', rfl⟩ := List.mem_map.1 (List.mem_filter.1 ha).1
        have := hx t ht'
        omega
      have hx' : ∀ t ∈ stepV op v next p q s, t.n < ((next + 1 : Nat) : Int) := fun t ht' => by
        unfold stepV at ht'
        rcases List.mem_append.1 ht' with h1 | h1
        · have := hx t ((dropF_sub p q v 0).subset h1); omega
        · simp at h1; subst h1; simp; omega
      have hcast : ((next + 1 : Nat) : Int) = (next : Int) + 1 := by omega
      obtain ⟨H3, e3, l3⟩ := c_iOrderPeak_1 hp hpl ho hdm k (i + 1) H2 sl' (next + 1) (stepV op v next p q s) (max m (costL dm (resL op v p q))) (by omega) (O.ext l2) (by omega) (by omega) (by omega) hd' hx' hL' (by rw [hnums, hcast]; exact q4)
      refine ⟨H3, ?_, l3⟩
      obtain ⟨a1, a2, a3⟩ := O.at0
      have hls := O.out.lr
      have hlen1 : 1 ≤ (stepV op v next p q s).length := by omega
      have hw : IntKind.wrap .i64 ((((stepV op v next p q s).length : Nat) : Int) - 1) = (((stepV op v next p q s).length - 1 : Nat) : Int) := by rw [wrap_id] <;> omega
      rw [R_eq, e_iOrderPeak_1, lt_true hlt, w1 hlt (by omega), cond_true, (hp.le hO.fr.le).ld hlt, e]
      simp only [Option.bind_some, one_bool]
      rw [O.rd]
      simp only [Option.bind_some, a2]
      rw [hls.n, hw, hls.lds hlast, e2]
      simp only [Option.bind_some, one_int, max_if]
      rw [hlab, e3, hcast, vp_step hd s hpl' hql' hp2 hq2 hpa hqb, vp_res hd hpl' hql' hp2 hq2 hpa hqb]
      rfl
end Go.Abs
/- Plans: peak and cost of an order (impl). -/
namespace Go.Abs
set_option linter.all false
set_option maxRecDepth 10000

def W0 (ts : List Tn) : List (Int × List Int) := (ts.zipIdx).map fun x => ((x.2 : Int), x.1.L)
theorem dimF_in {r : Rg} : ∀ {ts : List Tn}, (∀ t ∈ ts, tensorB r t = true) → ∀ t ∈ ts, ∀ x ∈ t.L, 1 ≤ dimF ts x
  | [], _, t, ht, _, _ => by simp at ht
  | u :: ts, h, t, ht, x, hx => by
    unfold dimF
    have hu := tensor_facts (h u List.mem_cons_self)
    split
    · rename_i hf
      have hm := (findF_mem u.L x 0).1 hf
      have hlt : (findF u.L x 0).toNat < u.D.length := by
        have : findF u.L x 0 < u.L.length := by
          have key : ∀ (l : List Int) (i : Nat), findF l x i < i + l.length ∨ findF l x i = -1 := by
            intro l
            induction l with
            | nil => intro i; exact .inr rfl
            | cons y l ih =>
              intro i
              unfold findF
              split
              · left; simp; omega
              · rcases ih (i + 1) with h | h
                · left; simp only [List.length_cons]; omega
                · exact .inr h
          rcases key u.L 0 with h | h
          · simpa using h
          · omega
        have := hu.1.1
        omega
      simp only [List.getD_eq_getElem?_getD, List.getElem?_eq_getElem hlt, Option.getD_some]
      exact (hu.2.2 _ (List.getElem_mem hlt)).1
    · rename_i hf
      rcases List.mem_cons.1 ht with rfl | ht
      · exact absurd ((findF_mem _ x 0).2 hx) hf
      · exact dimF_in (fun v hv => h v (List.mem_cons_of_mem _ hv)) t ht x hx
theorem tensor_labs {n : Nw} (hn : netB n = true) : ∀ t ∈ n.ts, LabsOk (dimF n.ts) t.L := fun t ht x hx => by
  have hm := net_mem hn
  have h1 := (tensor_facts (hm t ht)).1.2.2 x hx
  exact ⟨h1.1, h1.2, dimF_in hm t ht x hx, dimF_le hm x⟩
theorem start_facts {n : Nw} (hn : netB n = true) {v : List LE} (v2 : vp v = W0 n.ts) :
    v.length = n.ts.length ∧ v.map (·.n) = ((List.range n.ts.length).map fun i : Nat => (i : Int)) ∧ totV v ≤ 144 ∧ (v.map (·.n)).Nodup ∧ (∀ t ∈ v, t.n < ((n.ts.length : Nat) : Int)) ∧ LvOk (dimF n.ts) v := by
  obtain ⟨b1, b2, b3⟩ := netB_small hn
  unfold vp W0 at v2
  have hvl : v.length = n.ts.length := by have := congrArg List.length v2; simpa using this
  have hnums : v.map (·.n) = (List.range n.ts.length).map fun i : Nat => (i : Int) := by
    have := congrArg (List.map Prod.fst) v2
    rw [List.map_map, List.map_map] at this
    have e : (Prod.fst ∘ fun t : LE => (t.n, t.l)) = fun t => t.n := rfl
    rw [e] at this
    rw [this]
    refine List.ext_getElem (by simp) fun i h1 h2 => ?_
    simp
  have hlabs : v.map (fun t => t.l) = n.ts.map (fun t => t.L) := by
    have := congrArg (List.map Prod.snd) v2
    rw [List.map_map, List.map_map] at this
    have e : (Prod.snd ∘ fun t : LE => (t.n, t.l)) = fun t => t.l := rfl
    rw [e] at this
    rw [this]
    refine List.ext_getElem (by simp) fun i h1 h2 => ?_
    simp
  refine ⟨hvl, hnums, ?_, ?_, ?_, ?_⟩
  · have hlens : v.map (fun t => t.l.length) = n.ts.map (fun t => t.L.length) := by
      have := congrArg (List.map List.length) hlabs
      rw [List.map_map, List.map_map] at this
      exact this
    unfold totV
    rw [hlens]
    have key : ∀ l : List Tn, (∀ t ∈ l, t.L.length ≤ 12) → (l.map fun t => t.L.length).sum ≤ l.length * 12 := by
      intro l
      induction l with
      | nil => intro _; simp
      | cons t l ih =>
        intro h
        have h1 := h t List.mem_cons_self
        have h2 := ih fun u hu => h u (List.mem_cons_of_mem _ hu)
        simp only [List.map_cons, List.sum_cons, List.length_cons]
        omega
    have := key n.ts b3
    omega
  · rw [hnums, List.Nodup, List.pairwise_map]
    exact List.pairwise_lt_range.imp fun {a b} hab => by omega
  · intro t ht
    have : t.n ∈ v.map (·.n) := List.mem_map.2 ⟨t, ht, rfl⟩
    rw [hnums] at this
    obtain ⟨i, hi, e⟩ := List.mem_map.1 this
    have := List.mem_range.1 hi
    omega
  · intro t ht
    have : t.l ∈ v.map (fun t => t.l) := List.mem_map.2 ⟨t, ht, rfl⟩
    rw [hlabs] at this
    obtain ⟨u, hu, e⟩ := List.mem_map.1 this
    rw [← e]
    exact tensor_labs hn u hu
/-- impl.startState, with the sizes told. -/
theorem c_start {H : AH} {s u : Sl} {n : Nw} (h : NS H s u n) (hn : netB n = true) :
    ∃ bs D sl v H', R (.fn F.istartState) [npv n.r s u] H = some ⟨1, [.sc (.hp bs 0)], H'⟩ ∧ OS H H' bs D n.op u sl n.ts.length v ∧ vp v = W0 n.ts ∧ DmOk D (dimF n.ts) := by
  obtain ⟨bs, D, sl, v, H', e, O, v2, hD⟩ := c_istartState h hn
  refine ⟨bs, D, sl, v, H', e, O, v2, O.dl, ?_⟩
  have hD0 : Dm (List.replicate 100 0) [] := ⟨by simp, fun y _ _ => by
    simp only [List.getD_eq_getElem?_getD, List.getElem?_replicate]
    split <;> rfl⟩
  rcases dimTs_spec n.ts [] _ hD0 (fun _ h => by simp at h) (net_mem hn) with ⟨k1, D', k2, k3⟩ | ⟨k1, k2⟩
  · rw [hD] at k2; cases k2
    rw [List.nil_append] at k3
    exact k3.get
  · rw [hD] at k2; cases k2
theorem ordB_at {n : Nw} {ps : List Sp} (h : ordB n ps = true) : netB n = true ∧ ps.length = n.ts.length - 1 ∧ orderN ((List.range n.ts.length).map fun i : Nat => (i : Int)) n.ts.length ps = true := by
  simp only [ordB, Bool.and_eq_true, decide_eq_true_eq] at h
  exact ⟨h.1.1, h.1.2, h.2⟩
def peakN (n : Nw) (ps : List Sp) : Int := peakW n.op (dimF n.ts) (W0 n.ts) n.ts.length ps
def costN (n : Nw) (ps : List Sp) : Int := costW n.op (dimF n.ts) (W0 n.ts) n.ts.length ps
theorem one_hp {α : Type} (b o : Nat) (k : Nat × Nat → Option α) : ((oneP [.sc (.hp b o)]).bind fun p6 => p6.sc?.bind fun c7 => (ptrAt [c7] 0).bind k) = k (b, o) := rfl
/-- impl.OrderPeak -/
theorem c_iOrderPeak {H : AH} {s u sp : Sl} {n : Nw} {ps : List Sp} (h : NS H s u n) (hp : S2 H sp ps) (hord : ordB n ps = true) :
    ∃ H', R (.fn F.iOrderPeak) [npv n.r s u, ssc sp] H = some ⟨1, [isc (peakN n ps)], H'⟩ ∧ Go.Abs.Le H H' := by
  obtain ⟨hn, hl, ho⟩ := ordB_at hord
  obtain ⟨b1, b2, b3⟩ := netB_small hn
  obtain ⟨H1, e1, l1⟩ := c_iOrderOk h (by omega) hp (by omega)
  rw [hord] at e1
  obtain ⟨bs, D, sl, v, H2, e2, O2, v2, hD⟩ := c_start (h.le l1) hn
  obtain ⟨f1, f2, f3, f4, f5, f6⟩ := start_facts hn v2
  have hsv : SmallV v := ⟨by omega, fun t h => by have := totV_mem h; omega⟩
  obtain ⟨H3, e3, l3⟩ := c_iOrderPeak_0 hD hsv f6 v.length 0 H2 1 (by omega) O2
  have O3 := O2.ext l3
  obtain ⟨H4, e4, l4⟩ := c_iOrderPeak_1 (hp.le l1) (by omega) (by omega) hD ps.length 0 H3 sl n.ts.length v (((v.drop 0).map fun t => costL (dimF n.ts) t.l).foldl max 1) (by omega) O3 (by omega) (by omega) (by omega) f4 f5 f6 (by rw [f2, List.drop_zero]; exact ho)
  refine ⟨H4, ?_, l1.trans l4⟩
  obtain ⟨a1, a2, a3⟩ := O2.at0
  have e3 : R (.loop F.iOrderPeak 0) [.sc (.hp bs 0), isc 1, ssc sl, isc (v.length : Int), isc 0] H2 = _ := e3
  have e4 : R (.loop F.iOrderPeak 1) [.sc (.hp bs 0), isc _, ssc sp, isc (ps.length : Int), isc 0] H3 = _ := e4
  rw [R_eq, e_iOrderPeak, e1]
  simp only [Option.bind_some, one_bool, Bool.not_true, cond_false]
  rw [e2]
  simp only [Option.bind_some, one_hp]
  rw [O2.rd]
  simp only [Option.bind_some, a2]
  rw [O2.out.lr.n, e3]
  simp only [Option.bind_some, Nat.beq, cond_true]
  rw [show ∀ (m : Int) (k : Int → Option Out), ((nthP [isc m] 0).bind fun p20 => p20.sc?.bind fun c21 => (intAt .i64 [c21] 0).bind k) = k m from fun m k => rfl]
  rw [hp.1, e4]
  have : peakN n ps = (sizesW n.op (dimF n.ts) (vp v) n.ts.length (ps.drop 0)).foldl max (((v.drop 0).map fun t => costL (dimF n.ts) t.l).foldl max 1) := by
    unfold peakN peakW
    rw [List.foldl_append, ← v2, List.drop_zero, List.drop_zero]
    congr 2
    simp [vp]
  rw [this]
  rfl

theorem OS.keep {H0 H H' : AH} {bs : Nat} {D op : List Int} {so sl : Sl} {next : Nat} {v : List LE} (h : OS H0 H bs D op so sl next v) (hl : Go.Abs.Le H0 H') (hr : ∀ t ∈ v, t.l ≠ [] → H'[t.s.b]? = H[t.s.b]?) (hs : lcells v ≠ [] → H'[sl.b]? = H[sl.b]?) (hb : H'[bs]? = H[bs]?) : OS H0 H' bs D op so sl next v :=
  ⟨⟨hl, h.fr.rows.frame fun p hp hne => by
    obtain ⟨t, ht, rfl⟩ := List.mem_map.1 hp
    exact hr t ht hne⟩, h.out.keep hs, by rw [hb]; exact h.blk, h.lo, h.dl, h.op⟩
theorem own_ne {n0 : Nat} {H : AH} {s : Sl} {l : List Int} (h : Own n0 H s l) (hl : l ≠ []) {b z : Nat} {cs : List Sc} (hb : H[b]? = some ⟨cs, .rw, z⟩) (hz : z ≠ 1) : b ≠ s.b := fun e => by
  have := h.blk' hl
  rw [← e, hb] at this
  simp at this
  exact hz this.2
/-- impl.OrderCosts: the steps -/
theorem c_iOrderCosts_0 {H0 : AH} {bs : Nat} {D op : List Int} {so sp : Sl} {ps : List Sp} {dm : Int → Int} (hp : S2 H0 sp ps) (hpl : ps.length ≤ 1024) (ho : op.length ≤ 1024) (hdm : DmOk D dm) :
    ∀ (k i : Nat) (H : AH) (sl sc : Sl) (next : Nat) (v : List LE) (acc : List Int), i + k = ps.length → OS H0 H bs D op so sl next v → v.length ≤ 1024 → totV v ≤ 1000 → next ≤ 2048 + i → (v.map (·.n)).Nodup → (∀ t ∈ v, t.n < (next : Int)) → LvOk dm v → orderN (v.map (·.n)) next (ps.drop i) = true →
      Own H0.length H sc acc → acc.length ≤ i → (∀ t ∈ v, t.l ≠ [] → acc ≠ [] → t.s.b ≠ sc.b) →
      ∃ s' H', R (.loop F.iOrderCosts 0) [ssc sc, .sc (.hp bs 0), ssc sp, isc (ps.length : Int), isc (i : Int)] H = some ⟨2, [ssc s'], H'⟩ ∧ Go.Abs.Le H0 H' ∧ Own H0.length H' s' (acc ++ costsW op dm (vp v) next (ps.drop i))
  | 0, i, H, sl, sc, next, v, acc, hi, hO, hv, ht, hn, hd, hx, hL, hord, hsc, hac, hdis => by
    obtain rfl : i = ps.length := by omega
    refine ⟨sc, H, by rw [R_eq, e_iOrderCosts_0, lt_self]; rfl, hO.fr.le, ?_⟩
    rw [List.drop_eq_nil_of_le (Nat.le_refl _)]
    simpa [costsW] using hsc
  | k + 1, i, H, sl, sc, next, v, acc, hi, hO, hv, ht, hn, hd, hx, hL, hord, hsc, hac, hdis => by
    have hlt : i < ps.length := by omega
    have hsv : SmallV v := ⟨hv, fun t h => by have := totV_mem h; omega⟩
    rw [List.drop_eq_getElem_cons hlt] at hord ⊢
    obtain ⟨q1, q2, q3, q4⟩ := order_at rfl hord
    have ra := placeF_lo v ps[i].a 0
    have rb := placeF_lo v ps[i].b 0
    have na : ¬ placeF v ps[i].a 0 < 0 := fun h => (placeF_neg v _ 0).1 h q1
    have nb : ¬ placeF v ps[i].b 0 < 0 := fun h => (placeF_neg v _ 0).1 h q2
    obtain ⟨p, hpa⟩ : ∃ p : Nat, placeF v ps[i].a 0 = p := ⟨(placeF v ps[i].a 0).toNat, by omega⟩
    obtain ⟨q, hqb⟩ : ∃ q : Nat, placeF v ps[i].b 0 = q := ⟨(placeF v ps[i].b 0).toNat, by omega⟩
    have hpl' : p < v.length := by omega
    have hql' : q < v.length := by omega
    obtain ⟨hp1, _, hp2⟩ := placeF_at v _ 0 p hpa
    obtain ⟨hq1, _, hq2⟩ := placeF_at v _ 0 q hqb
    simp only [Nat.sub_zero] at hp2 hq2
    have hpq : p ≠ q := fun e => by subst e; omega
    have pa := c_place hO hv ps[i].a
    have pb := c_place hO hv ps[i].b
    rw [hpa] at pa
    rw [hqb] at pb
    have hmp := List.getElem_mem hpl'
    have hmq := List.getElem_mem hql'
    have tp := totV_mem hmp
    have tq := totV_mem hmq
    -- the cost
    have hler := Go.Abs.Le.app H [resB]
    have Or := hO.ext hler
    obtain ⟨s34, H1, e1, l1, o1⟩ := c_ijoinLabels (Or.lab hmp) (Or.lab hmq) (by omega)
    have hjl := joinL_len v[p].l v[q].l
    obtain ⟨H2, e2, l2⟩ := c_size (Or.ext l1) hdm o1.is (by omega) (LabsOk.join (hL _ hmp) (hL _ hmq))
    have l02 : Go.Abs.Le (H ++ [resB]) H2 := l1.trans l2
    have hres : H2[H.length]? = some resB := by rw [l02.get _ (by simp)]; simp
    have hlen2 : H.length < H2.length := by have := l02.len; simp at this; omega
    have hscS : Own H0.length (H2.set H.length ⟨[.int .i64 (costL dm (joinL v[p].l v[q].l))], .rw, 1⟩) sc acc := ((hsc.le hler).le l02).mono fun hne => List.getElem?_set_ne (by have := hsc.lt hne; omega)
    have hlen0 := hO.fr.le.len
    obtain ⟨sc', H3, e3, o3, l3, f3, _, g3⟩ := app_own (m := [costL dm (joinL v[p].l v[q].l)]) (H := H2.set H.length ⟨[.int .i64 (costL dm (joinL v[p].l v[q].l))], .rw, 1⟩) (by simp; omega) hscS (by simp; omega)
    have g3 := g3 (by simp)
    simp only [List.length_set] at l3 f3 g3
    have keep : ∀ d, d < H.length → (d ≠ sc.b ∨ acc = []) → H3[d]? = H[d]? := fun d hd hne => by
      rw [f3 d (by omega) hne, List.getElem?_set_ne (by omega), l02.get d (by simp; omega)]
      exact List.getElem?_append_left hd
    have hbl : bs < H.length := (List.getElem?_eq_some_iff.1 hO.blk).1
    have hle3 : Go.Abs.Le H0 H3 := ⟨by omega, fun d hd => by
      rw [keep d (by omega) (by
        rcases hsc.lo with h | h
        · exact .inr h
        · exact .inl (by omega))]
      exact hO.fr.le.get d hd⟩
    have dis : ∀ d, (acc ≠ [] → d ≠ sc.b) → (d ≠ sc.b ∨ acc = []) := fun d h => by
      by_cases e : acc = []
      · exact .inr e
      · exact .inl (h e)
    have O3 : OS H0 H3 bs D op so sl next v := hO.keep hle3
      (fun t ht' hne => keep _ ((hO.fr.own (List.mem_map.2 ⟨t, ht', rfl⟩)).lt hne) (dis _ fun ha => hdis t ht' hne ha))
      (fun hne => keep _ (hO.out.lt hne) (dis _ fun ha => by
        rcases hO.out.blk with ⟨e', _⟩ | ⟨_, _, e'⟩
        · exact absurd e' hne
        · exact own_ne hsc ha e' (by omega)))
      (keep _ hbl (dis _ fun ha => own_ne hsc ha hO.blk (by omega)))
    obtain ⟨sl', s, H4, e4, O4, l4, f4, g4⟩ := c_contract' O3 hsv ho (by omega) hpl' hql'
    have hne3 : acc ++ [costL dm (joinL v[p].l v[q].l)] ≠ [] := by simp
    have hsc3 : sc'.b < H3.length := o3.lt hne3
    have o4 : Own H0.length H4 sc' (acc ++ [costL dm (joinL v[p].l v[q].l)]) := o3.mono fun _ => f4 _ hsc3 (Ne.symm (own_ne o3 hne3 O3.blk (by omega)))
    obtain ⟨g1, g2⟩ := stepV_tot op (next := next) s hpl' hql' hpq
    have hnums := stepV_nums (op := op) (nx := next) hd s hpl' hql' hp2 hq2
    have hL' := LvOk.step (op := op) (next := next) (s := s) hL hpl' hql'
    have hd' : ((stepV op v next p q s).map (·.n)).Nodup := by
      rw [hnums]
      refine List.nodup_append.2 ⟨hd.filter _, by simp, fun a ha b hb => ?_⟩
      simp at hb; subst hb
      obtain ⟨t, ht', rfl⟩ := List.mem_map.1 (List.mem_filter.1 ha).1
      have := hx t ht'
      omega
    have hx' : ∀ t ∈ stepV op v next p q s, t.n < ((next + 1 : Nat) : Int) := fun t ht' => by
      unfold stepV at ht'
      rcases List.mem_append.1 ht' with h1 | h1
      · have := hx t ((dropF_sub p q v 0).subset h1); omega
      · simp at h1; subst h1; simp; omega
    have hdis' : ∀ t ∈ stepV op v next p q s, t.l ≠ [] → acc ++ [costL dm (joinL v[p].l v[q].l)] ≠ [] → t.s.b ≠ sc'.b := fun t ht' hne _ => by
      unfold stepV at ht'
      rcases List.mem_append.1 ht' with h1 | h1
      · have hin := (dropF_sub p q v 0).subset h1
        have := (hO.fr.own (List.mem_map.2 ⟨t, hin, rfl⟩)).lt hne
        omega
      · simp at h1; subst h1
        rcases g4 with h | h
        · exact absurd h hne
        · show s.b ≠ sc'.b
          omega
    have hcast : ((next + 1 : Nat) : Int) = (next : Int) + 1 := by omega
    obtain ⟨s', H5, e5, l5, o5⟩ := c_iOrderCosts_0 hp hpl ho hdm k (i + 1) H4 sl' sc' (next + 1) (stepV op v next p q s) (acc ++ [costL dm (joinL v[p].l v[q].l)]) (by omega) O4 (by omega) (by omega) (by omega) hd' hx' hL' (by rw [hnums, hcast]; exact q4) o4 (by simp; omega) hdis'
    refine ⟨s', H5, ?_, l5, ?_⟩
    · obtain ⟨a1, a2, a3⟩ := hO.at0
      have hLr := Or.out.lr
      rw [R_eq, e_iOrderCosts_0, lt_true hlt, w1 hlt (by omega), cond_true, (hp.le hO.fr.le).ld hlt, pa]
      simp only [Option.bind_some, one_int]
      rw [pb]
      simp only [Option.bind_some, one_int]
      rw [reserve1, Or.rd]
      simp only [Option.bind_some, a2]
      rw [hLr.lds hpl', hLr.lds hql', e1]
      simp only [Option.bind_some, one_sl]
      rw [e2]
      simp only [Option.bind_some, one_int]
      rw [Nat.add_zero, newAt_ok hres (by omega)]
      simp only [Option.bind_some]
      rw [rng_new (cs := [.int .i64 (costL dm (joinL v[p].l v[q].l))]) (z := 1) (m := 1 * 1) (by simp [hlen2]) rfl (by omega)]
      simp only [Option.bind_some]
      have e3 : appB (H2.set H.length ⟨[.int .i64 (costL dm (joinL v[p].l v[q].l))], .rw, 1⟩) 1 8 sc [.int .i64 (costL dm (joinL v[p].l v[q].l))] 1 = some (sc', H3) := e3
      rw [e3]
      simp only [Option.bind_some]
      rw [e4]
      simp only [Option.bind_some, o_ii]
      exact e5
    · rw [vp_step hd s hpl' hql' hp2 hq2 hpa hqb, hcast] at o5
      simp only [costsW]
      rw [← vp_join hpl' hql' hpa hqb]
      rw [List.append_assoc, List.singleton_append] at o5
      exact o5
end Go.Abs
/- Plans: the cost of an order; copies of steps. -/
namespace Go.Abs
set_option linter.all false
set_option maxRecDepth 10000

/-- impl.OrderCosts -/
theorem c_iOrderCosts {H : AH} {s u sp : Sl} {n : Nw} {ps : List Sp} (h : NS H s u n) (hp : S2 H sp ps) (hord : ordB n ps = true) :
    ∃ s' H', R (.fn F.iOrderCosts) [npv n.r s u, ssc sp] H = some ⟨1, [ssc s'], H'⟩ ∧ Go.Abs.Le H H' ∧ Own H.length H' s' (costsW n.op (dimF n.ts) (W0 n.ts) n.ts.length ps) := by
  obtain ⟨hn, hl, ho⟩ := ordB_at hord
  obtain ⟨b1, b2, b3⟩ := netB_small hn
  obtain ⟨H1, e1, l1⟩ := c_iOrderOk h (by omega) hp (by omega)
  rw [hord] at e1
  obtain ⟨bs, D, sl, v, H2, e2, O2, v2, hD⟩ := c_start (h.le l1) hn
  obtain ⟨f1, f2, f3, f4, f5, f6⟩ := start_facts hn v2
  obtain ⟨s', H3, e3, l3, o3⟩ := c_iOrderCosts_0 (hp.le l1) (by omega) (by omega) hD ps.length 0 H2 sl ⟨0, 0, 0, 0, true⟩ n.ts.length v [] (by omega) O2 (by omega) (by omega) (by omega) f4 f5 f6 (by rw [f2, List.drop_zero]; exact ho) (Own.nil _ _ _) (by simp) (fun t _ _ h => absurd rfl h)
  rw [List.drop_zero, List.nil_append, v2] at o3
  refine ⟨s', H3, ?_, l1.trans l3, o3.low l1.len⟩
  have e3 : R (.loop F.iOrderCosts 0) [ssc ⟨0, 0, 0, 0, true⟩, .sc (.hp bs 0), ssc sp, isc (ps.length : Int), isc 0] H2 = _ := e3
  rw [R_eq, e_iOrderCosts, e1]
  simp only [Option.bind_some, one_bool, Bool.not_true, cond_false]
  rw [e2]
  simp only [Option.bind_some, one_hp]
  rw [hp.1, e3]
  rfl
def WOk (dm : Int → Int) (W : List (Int × List Int)) : Prop := ∀ t ∈ W, LabsOk dm t.2
theorem labW_ok {dm : Int → Int} {W : List (Int × List Int)} (h : WOk dm W) (a : Int) : LabsOk dm (labW W a) := fun x hx => by
  unfold labW at hx
  cases hf : W.find? fun x => x.1 == a with
  | none => rw [hf] at hx; simp at hx
  | some t =>
    rw [hf] at hx
    exact h t (List.mem_of_find?_eq_some hf) x (by simpa using hx)
theorem resW_ok {dm : Int → Int} {W : List (Int × List Int)} (h : WOk dm W) (op : List Int) (a b : Int) : LabsOk dm (resW op W a b) := fun x hx => by
  unfold resW at hx
  exact (LabsOk.join (labW_ok h a) (labW_ok h b)) x (List.mem_filter.1 hx).1
theorem stepW_ok {dm : Int → Int} {W : List (Int × List Int)} (h : WOk dm W) (op : List Int) (nx : Int) (p : Sp) : WOk dm (stepW op W nx p) := fun t ht => by
  unfold stepW at ht
  rcases List.mem_append.1 ht with h1 | h1
  · exact h t (List.mem_filter.1 h1).1
  · simp at h1; subst h1; exact resW_ok h op _ _
theorem prd_labs {dm : Int → Int} {l : List Int} (h : LabsOk dm l) : 1 ≤ prd (l.map dm) := prd_pos fun d hd => by
  obtain ⟨x, hx, rfl⟩ := List.mem_map.1 hd
  exact (h x hx).2.2.1
theorem costL_range {dm : Int → Int} {l : List Int} (h : LabsOk dm l) : 1 ≤ costL dm l ∧ costL dm l ≤ 1000000000 := by
  have := prd_labs h
  unfold costL; omega
theorem costs_range (op : List Int) (dm : Int → Int) : ∀ (ps : List Sp) (W : List (Int × List Int)) (nx : Int), WOk dm W → ∀ c ∈ costsW op dm W nx ps, 1 ≤ c ∧ c ≤ 1000000000
  | [], W, nx, h, c, hc => by simp [costsW] at hc
  | p :: ps, W, nx, h, c, hc => by
    simp only [costsW] at hc
    rcases List.mem_cons.1 hc with rfl | hc
    · exact costL_range (LabsOk.join (labW_ok h _) (labW_ok h _))
    · exact costs_range op dm ps _ _ (stepW_ok h op nx p) c hc
theorem costs_len (op : List Int) (dm : Int → Int) : ∀ (ps : List Sp) (W : List (Int × List Int)) (nx : Int), (costsW op dm W nx ps).length = ps.length
  | [], _, _ => rfl
  | p :: ps, W, nx => by simp [costsW, costs_len op dm ps]
theorem W0_ok {n : Nw} (hn : netB n = true) : WOk (dimF n.ts) (W0 n.ts) := fun t ht => by
  unfold W0 at ht
  obtain ⟨x, hx, rfl⟩ := List.mem_map.1 ht
  have hm : x.1 ∈ n.ts := by
    obtain ⟨i, hi⟩ := List.getElem?_of_mem hx
    rw [List.getElem?_zipIdx] at hi
    cases hh : n.ts[i]? with
    | none => rw [hh] at hi; simp at hi
    | some y => rw [hh] at hi; simp at hi; rw [← hi]; exact List.mem_of_getElem? hh
  exact tensor_labs hn x.1 hm
/-- impl.OrderCost -/
theorem c_iOrderCost {H : AH} {s u sp : Sl} {n : Nw} {ps : List Sp} (h : NS H s u n) (hp : S2 H sp ps) (hord : ordB n ps = true) :
    ∃ H', R (.fn F.iOrderCost) [npv n.r s u, ssc sp] H = some ⟨1, [isc (costN n ps)], H'⟩ ∧ Go.Abs.Le H H' := by
  obtain ⟨hn, hl, ho⟩ := ordB_at hord
  obtain ⟨b1, b2, b3⟩ := netB_small hn
  obtain ⟨H1, e1, l1⟩ := c_iOrderOk h (by omega) hp (by omega)
  rw [hord] at e1
  obtain ⟨s', H2, e2, l2, o2⟩ := c_iOrderCosts (h.le l1) (hp.le l1) hord
  have hrg := costs_range n.op (dimF n.ts) ps (W0 n.ts) n.ts.length (W0_ok hn)
  have hcl := costs_len n.op (dimF n.ts) ps (W0 n.ts) n.ts.length
  generalize hcs : costsW n.op (dimF n.ts) (W0 n.ts) n.ts.length ps = cs at *
  have loop : ∀ (k i : Nat), i + k = cs.length → ∀ x : Int, 0 ≤ x → x ≤ 1000000000 * i → R (.loop F.iOrderCost 0) [isc x, ssc s', isc (cs.length : Int), isc (i : Int)] H2 = some ⟨2, [isc (x + (cs.drop i).sum)], H2⟩ := by
    intro k
    induction k with
    | zero =>
      intro i hi x _ _
      obtain rfl : i = cs.length := by omega
      rw [R_eq, e_iOrderCost_0, lt_self, List.drop_eq_nil_of_le (Nat.le_refl _)]
      simp
    | succ k ih =>
      intro i hi x h0 h1
      have h2 : i < cs.length := by omega
      rw [R_eq, e_iOrderCost_0, lt_true h2, w1 h2 (by omega), cond_true, o2.is.ldk h2]
      have q1 := hrg cs[i] (List.getElem_mem h2)
      have w3 : IntKind.wrap .i64 (x + cs[i]) = x + cs[i] := by rw [wrap_id] <;> omega
      rw [w3, ih (i + 1) (by omega) _ (by omega) (by omega), List.drop_eq_getElem_cons h2, List.sum_cons, Int.add_assoc]
  have e3 := loop cs.length 0 (by omega) 0 (by omega) (by omega)
  have e3 : R (.loop F.iOrderCost 0) [isc 0, ssc s', isc (cs.length : Int), isc 0] H2 = _ := e3
  refine ⟨H2, ?_, l1.trans l2⟩
  rw [R_eq, e_iOrderCost, e1]
  simp only [Option.bind_some, one_bool, Bool.not_true, cond_false]
  rw [e2]
  simp only [Option.bind_some, one_sl]
  rw [o2.n, e3]
  have hif : (if (1000000000 : Int) < 0 + (cs.drop 0).sum then 1000000000 else 0 + (cs.drop 0).sum) = costN n ps := by
    unfold costN costW
    rw [hcs, List.drop_zero, Int.zero_add]
    split <;> omega
  simp only [Option.bind_some, Nat.beq, cond_true]
  rw [show ∀ (m : Int) (k : Int → Option Out), ((nthP [isc m] 0).bind fun p20 => p20.sc?.bind fun c21 => (intAt .i64 [c21] 0).bind k) = k m from fun m k => rfl, hif]
end Go.Abs
/- Pure: steps of the axes that are left. -/
namespace Go.Abs
set_option linter.all false

def updS (m S : List Int) (l step : Int) : List Int := (m.zip S).map fun x => if x.1 == l then step else x.2
theorem updS_len {m S : List Int} (h : S.length = m.length) (l step : Int) : (updS m S l step).length = m.length := by simp [updS, h]
def strG (m : List Int) : List Int → List Int → Int → List Int → List Int
  | l :: Lr, d :: Dr, step, S => strG m Lr Dr (step * d) (updS m S l step)
  | _, _, _, S => S
def valS (x : Int) : List Int → List Int → Int → Int → Int
  | l :: Lr, d :: Dr, step, s => valS x Lr Dr (step * d) (if x == l then step else s)
  | _, _, _, s => s
theorem strG_val (m : List Int) : ∀ (Lr Dr : List Int) (step : Int) (S : List Int), S.length = m.length → strG m Lr Dr step S = (m.zip S).map fun x => valS x.1 Lr Dr step x.2
  | [], Dr, step, S, h => by
    simp only [strG, valS]
    exact (List.map_snd_zip (by omega)).symm
  | l :: Lr, [], step, S, h => by
    simp only [strG, valS]
    exact (List.map_snd_zip (by omega)).symm
  | l :: Lr, d :: Dr, step, S, h => by
    simp only [strG, valS]
    rw [strG_val m Lr Dr (step * d) (updS m S l step) (updS_len h l step)]
    refine List.ext_getElem (by simp [updS, h]) fun i h1 h2 => ?_
    simp [updS]
theorem valS_none {x : Int} : ∀ {Lr Dr : List Int} {step s : Int}, x ∉ Lr → valS x Lr Dr step s = s
  | [], _, _, _, _ => rfl
  | l :: Lr, [], _, _, _ => rfl
  | l :: Lr, d :: Dr, step, s, h => by
    have h1 : (x == l) = false := by simp; intro e; exact h (by simp [e])
    simp only [valS, h1, Bool.false_eq_true, if_false]
    exact valS_none fun e => h (by simp [e])
theorem valS_at {x : Int} : ∀ {Lr Dr : List Int} {step s : Int} {q : Nat}, Lr.Nodup → Lr.length = Dr.length → Lr[q]? = some x → (strR step Dr)[q]? = some (valS x Lr Dr step s)
  | [], _, _, _, q, _, _, h => by simp at h
  | l :: Lr, [], _, _, _, _, h, _ => by simp at h
  | l :: Lr, d :: Dr, step, s, 0, hd, hl, h => by
    simp at h; subst h
    simp only [strR, valS, List.getElem?_cons_zero, BEq.rfl, if_true]
    rw [valS_none (List.nodup_cons.1 hd).1]
  | l :: Lr, d :: Dr, step, s, q + 1, hd, hl, h => by
    simp only [strR, valS, List.getElem?_cons_succ] at h ⊢
    exact valS_at (List.nodup_cons.1 hd).2 (by simpa using hl) h
theorem str_full {L D : List Int} (hd : L.Nodup) (hl : L.length = D.length) : (L.map fun x => valS x L.reverse D.reverse 1 0) = strF D := by
  refine List.ext_getElem? fun i => ?_
  rcases Nat.lt_or_ge i L.length with hi | hi
  · have hr : L.reverse[L.length - 1 - i]? = some L[i] := by
      rw [List.getElem?_reverse (by omega), show L.length - 1 - (L.length - 1 - i) = i by omega]
      exact List.getElem?_eq_getElem hi
    have := valS_at (x := L[i]) (Lr := L.reverse) (Dr := D.reverse) (step := 1) (s := 0) (List.pairwise_reverse.2 (List.Pairwise.imp Ne.symm hd)) (by simpa using hl) hr
    unfold strF
    rw [List.getElem?_reverse (by rw [strR_len]; simp; omega), strR_len, List.length_reverse, ← hl, this, List.getElem?_map, List.getElem?_eq_getElem hi]
    rfl
  · rw [List.getElem?_eq_none (by simpa using hi), List.getElem?_eq_none (by rw [strF_len]; omega)]
theorem str_erase {L D : List Int} (hd : L.Nodup) (hl : L.length = D.length) (j : Nat) : strG (L.eraseIdx j) L.reverse D.reverse 1 (List.replicate (L.eraseIdx j).length 0) = (strF D).eraseIdx j := by
  rw [strG_val _ _ _ _ _ (by simp), ← str_full hd hl]
  have : (L.map fun x => valS x L.reverse D.reverse 1 0).eraseIdx j = (L.eraseIdx j).map fun x => valS x L.reverse D.reverse 1 0 := by
    refine List.ext_getElem? fun i => ?_
    simp only [List.getElem?_eraseIdx, List.getElem?_map]
    split <;> rfl
  rw [this]
  refine List.ext_getElem (by simp) fun i h1 h2 => ?_
  simp
theorem filter_erase : ∀ {l : List Int}, l.Nodup → ∀ {j : Nat} (hj : j < l.length), (l.filter fun y => y != l[j]) = l.eraseIdx j
  | [], _, j, hj => by simp at hj
  | a :: l, hd, 0, hj => by
    have h := List.nodup_cons.1 hd
    simp only [List.getElem_cons_zero, List.eraseIdx_cons_zero, List.filter_cons]
    have h1 : (a != a) = false := by simp
    rw [h1]
    simp only [Bool.false_eq_true, if_false]
    refine List.filter_eq_self.2 fun y hy => bne_iff_ne.2 fun e => h.1 (e ▸ hy)
  | a :: l, hd, j + 1, hj => by
    have h := List.nodup_cons.1 hd
    have hj' : j < l.length := by simpa using hj
    simp only [List.getElem_cons_succ, List.eraseIdx_cons_succ, List.filter_cons]
    have h1 : (a != l[j]) = true := bne_iff_ne.2 fun e => h.1 (e ▸ List.getElem_mem hj')
    rw [h1]
    simp only [if_true]
    rw [filter_erase h.2 hj']
theorem findF_at : ∀ {l : List Int} {x : Int} {k i : Nat}, findF l x k = (i : Int) → k ≤ i ∧ ∃ h : i - k < l.length, l[i - k] = x
  | [], x, k, i, h => by simp only [findF] at h; omega
  | y :: l, x, k, i, h => by
    unfold findF at h
    split at h
    · rename_i e
      have : i = k := by omega
      subst this
      exact ⟨Nat.le_refl _, by simp, by simpa using e⟩
    · have hh := findF_lo l x (k + 1)
      obtain ⟨h1, h2, h3⟩ := findF_at h
      refine ⟨by omega, by simp; omega, ?_⟩
      rw [List.getElem_cons, dif_neg (by omega)]
      rw [← h3]
      congr 1
theorem dist_nodup : ∀ {l : List Int}, distI l → l.Nodup
  | [], _ => List.nodup_nil
  | x :: l, h => List.nodup_cons.2 ⟨h.1, dist_nodup h.2⟩
end Go.Abs
/- Plans: steps of axes. -/
namespace Go.Abs
set_option linter.all false
set_option maxRecDepth 10000

/-- impl.stridesOf: an axis -/
theorem c_istridesOf_1 {H : AH} {a b c ms : Sl} {L m : List Int} (hL : IS H a L) (hm : IS H ms m) (hml : m.length ≤ 12) {p : Nat} (hp : p < L.length) (step : Int) :
    ∀ (k i : Nat) (S : List Int), i + k = m.length → S.length = m.length →
      R (.loop F.istridesOf 1) [ssc ⟨H.length, 0, m.length, m.length, true⟩, isc step, isc (p : Int), ssc ms, isc (m.length : Int), isc (i : Int), tpv a b c] (H ++ [⟨ics S, .rw, 1⟩]) = some ⟨4, [], H ++ [⟨ics (S.take i ++ updS (m.drop i) (S.drop i) L[p] step), .rw, 1⟩]⟩
  | 0, i, S, hi, hS => by
    obtain rfl : i = m.length := by omega
    rw [R_eq, e_istridesOf_1, lt_self, List.drop_eq_nil_of_le (Nat.le_refl _)]
    rw [List.take_of_length_le (by omega)]
    simp [updS]
  | k + 1, i, S, hi, hS => by
    have hlt : i < m.length := by omega
    have hle := Go.Abs.Le.app H [⟨ics S, .rw, 1⟩]
    rw [R_eq, e_istridesOf_1, lt_true hlt, w1 hlt (by omega), cond_true, (hm.le hle).ldk hlt, (hL.le hle).ldk hp]
    have hu : updS (m.drop i) (S.drop i) L[p] step = (if m[i] == L[p] then step else S[i]) :: updS (m.drop (i + 1)) (S.drop (i + 1)) L[p] step := by
      rw [List.drop_eq_getElem_cons hlt, List.drop_eq_getElem_cons (show i < S.length by omega)]
      rfl
    rw [hu]
    by_cases he : (m[i] == L[p]) = true
    · rw [he, cond_true, st_own0 app_get hlt (by omega), app_set, if_pos rfl]
      rw [c_istridesOf_1 hL hm hml hp step k (i + 1) (S.set i step) (by omega) (by simpa using hS)]
      have e1 : (S.set i step).take (i + 1) = S.take i ++ [step] := by
        rw [take_snoc' (by simp; omega), List.getElem_set_self]
        congr 1
        refine List.ext_getElem? fun d => ?_
        rw [List.getElem?_take, List.getElem?_take]
        split
        · rw [List.getElem?_set_ne (by omega)]
        · rfl
      have e2 : (S.set i step).drop (i + 1) = S.drop (i + 1) := by
        rw [List.drop_set_of_lt (by omega)]
      rw [e1, e2]
      simp
    · have he' : (m[i] == L[p]) = false := by simpa using he
      rw [he', cond_false, c_istridesOf_1 hL hm hml hp step k (i + 1) S (by omega) hS]
      rw [take_snoc' (show i < S.length by omega), if_neg (by simp), List.append_assoc, List.singleton_append]
/-- impl.stridesOf -/
theorem c_istridesOf {H : AH} {a b c ms : Sl} {L D m : List Int} (hL : IS H a L) (hD : IS H b D) (hm : IS H ms m) (hml : m.length ≤ 12) (hl : L.length = D.length) (hd : DimsOk D) :
    R (.fn F.istridesOf) [tpv a b c, ssc ms] H = some ⟨1, [ssc ⟨H.length, 0, m.length, m.length, true⟩], H ++ [⟨ics (strG m L.reverse D.reverse 1 (List.replicate m.length 0)), .rw, 1⟩]⟩ := by
  have hdl := hd.1
  have loop : ∀ (k : Nat) (step : Int) (S : List Int), k ≤ D.length → S.length = m.length → 1 ≤ step → step * prd (D.take k) ≤ 4096 →
      R (.loop F.istridesOf 0) [ssc ms, ssc ⟨H.length, 0, m.length, m.length, true⟩, isc step, isc ((k : Int) - 1), tpv a b c] (H ++ [⟨ics S, .rw, 1⟩]) = some ⟨2, [], H ++ [⟨ics (strG m (L.take k).reverse (D.take k).reverse step S), .rw, 1⟩]⟩ := by
    intro k
    induction k with
    | zero =>
      intro step S hk hS h1 h2
      rw [R_eq, e_istridesOf_0, ge_false]
      simp [strG]
    | succ k ih =>
      intro step S hk hS h1 h2
      have hlt : k < D.length := by omega
      have hlt2 : k < L.length := by omega
      have hdk := hd.2.1 D[k] (List.getElem_mem hlt)
      rw [take_snoc' hlt, prd_app] at h2
      have hp := prd_pos (a := D.take k) fun x hx => hd.ge x (List.mem_of_mem_take hx)
      have e0 : prd [D[k]] = D[k] := by simp [prd]
      rw [e0, Int.mul_comm (prd (D.take k)), ← Int.mul_assoc] at h2
      have h3 : 1 * 1 ≤ step * D[k] := Int.mul_le_mul h1 hdk.1 (by omega) (by omega)
      have h4 : step * D[k] * 1 ≤ step * D[k] * prd (D.take k) := Int.mul_le_mul_of_nonneg_left hp (by omega)
      have ew : IntKind.wrap .i64 (step * D[k]) = step * D[k] := by rw [wrap_id] <;> omega
      rw [R_eq, e_istridesOf_0, ge_true, cond_true, down1]
      have e1 := c_istridesOf_1 (b := b) (c := c) hL hm hml hlt2 step m.length 0 S (by omega) hS
      have e1 : R (.loop F.istridesOf 1) [ssc ⟨H.length, 0, m.length, m.length, true⟩, isc step, isc (k : Int), ssc ms, isc (m.length : Int), isc 0, tpv a b c] (H ++ [⟨ics S, .rw, 1⟩]) = _ := e1
      rw [hm.n, e1]
      simp only [Option.bind_some, Nat.beq, cond_true, List.take_zero, List.drop_zero, List.nil_append]
      rw [(hD.le (Go.Abs.Le.app H _)).ldk hlt, ew, wdown (by omega)]
      rw [ih (step * D[k]) (updS m S L[k] step) (by omega) (updS_len hS _ _) (by omega) h2]
      rw [take_snoc' hlt, take_snoc' hlt2, List.reverse_append, List.reverse_append]
      rfl
  have e := loop D.length 1 (List.replicate m.length 0) (Nat.le_refl _) (by simp) (by omega) (by rw [List.take_length, Int.one_mul]; exact hd.2.2)
  rw [List.take_length, show L.take D.length = L by rw [← hl, List.take_length]] at e
  rw [R_eq, e_istridesOf, hm.n, mk_ints (by omega)]
  simp only [Option.bind_some]
  rw [hD.n, wdown (by omega), e]
  rfl
/-- impl.indexIn, at the first place -/
theorem c_iindexIn {H : AH} {s : Sl} {D : List Int} (h : IS H s D) (hl : D.length ≤ 12) (hd : ∀ d ∈ D, 1 ≤ d) :
    R (.fn F.iindexIn) [ssc s, isc 0] H = some ⟨1, [ssc ⟨H.length, 0, D.length, D.length, true⟩], H ++ [⟨ics (List.replicate D.length 0), .rw, 1⟩]⟩ := by
  have loop : ∀ (k : Nat), k ≤ D.length →
      R (.loop F.iindexIn 0) [ssc s, isc 0, ssc ⟨H.length, 0, D.length, D.length, true⟩, isc ((k : Int) - 1)] (H ++ [⟨ics (List.replicate D.length 0), .rw, 1⟩]) = some ⟨2, [], H ++ [⟨ics (List.replicate D.length 0), .rw, 1⟩]⟩ := by
    intro k
    induction k with
    | zero =>
      intro hk
      rw [R_eq, e_iindexIn_0, ge_false]
      rfl
    | succ k ih =>
      intro hk
      have hlt : k < D.length := by omega
      have hdk := hd D[k] (List.getElem_mem hlt)
      have hnz : (D[k] == 0) = false := bf (by omega)
      have e1 : IntKind.wrap .i64 (Int.tdiv 0 D[k]) = 0 := by rw [Int.zero_tdiv]; decide
      have e2 : Int.tmod 0 D[k] = 0 := Int.zero_tmod _
      have e3 : (List.replicate D.length (0 : Int)).set k 0 = List.replicate D.length 0 := by
        refine List.ext_getElem (by simp) fun i h1 h2 => ?_
        rw [List.getElem_set]
        split <;> simp
      rw [R_eq, e_iindexIn_0, ge_true, cond_true, down1, (h.le (Go.Abs.Le.app H _)).ldk hlt, hnz, cond_false, e2, st_own0 app_get hlt (by simp; omega), app_set, e3, (h.le (Go.Abs.Le.app H _)).ldk hlt, hnz, cond_false, e1, wdown (by omega)]
      exact ih (by omega)
  rw [R_eq, e_iindexIn, h.n, mk_ints (by omega)]
  simp only [Option.bind_some]
  rw [wdown (by omega), loop D.length (Nat.le_refl _)]
  rfl
end Go.Abs
/- Plans: a slice of a tensor at 0 (impl). -/
namespace Go.Abs
set_option linter.all false
set_option maxRecDepth 10000

theorem dims_erase {D : List Int} (h : DimsOk D) {j : Nat} (hj : j < D.length) : DimsOk (D.eraseIdx j) := by
  refine ⟨by rw [List.length_eraseIdx_of_lt hj]; have := h.1; omega, fun d hd => h.2.1 d ((List.eraseIdx_sublist D j).subset hd), ?_⟩
  have hp : ∀ (D : List Int) (j : Nat), (∀ d ∈ D, 1 ≤ d) → prd (D.eraseIdx j) ≤ prd D := by
    intro D
    induction D with
    | nil => intro j _; simp
    | cons d D ih =>
      intro j h
      have hd := h d List.mem_cons_self
      have hr : ∀ x ∈ D, 1 ≤ x := fun x hx => h x (List.mem_cons_of_mem _ hx)
      have hp := prd_pos hr
      cases j with
      | zero =>
        simp only [List.eraseIdx_cons_zero, prd]
        have : 1 * prd D ≤ d * prd D := Int.mul_le_mul_of_nonneg_right hd (by omega)
        omega
      | succ j =>
        simp only [List.eraseIdx_cons_succ, prd]
        exact Int.mul_le_mul_of_nonneg_left (ih j hr) (by omega)
  have := hp D j h.ge
  have := h.2.2
  omega
theorem fr_ne {H0 H : AH} {rs : List Row} (h : Fr H0 H rs) {p q : Row} {xs : List Row} (hs : (p :: xs).Sublist rs) (hq : q ∈ xs) (hp : p.2 ≠ []) (hq2 : q.2 ≠ []) : p.1.b ≠ q.1.b := by
  have := h.rows.apart.sublist hs
  rw [List.pairwise_cons] at this
  rcases this.1 q hq with h | h | h
  · exact absurd h hp
  · exact absurd h hq2
  · exact h
theorem c_irawElem' {r : Rg} {H : AH} {a b c : Sl} {n w : Nat} (hw : widthR r = (w : Int)) (hn : (n + 1) * w ≤ c.c) (hc : (n + 1) * w ≤ 4611686018427387904) (hn2 : n ≤ 4611686018427387904) (hw2 : w ≤ 6) :
    R (.fn F.irawElem) [r.pv, tpv a b c, isc (n : Int)] H = some ⟨1, [ssc (partAt c w n)], H⟩ := by
  rw [R_eq, e_irawElem, c_irawWidth, hw]
  simp only [Option.bind_some, one_int]
  have h0 : n * w ≤ (n + 1) * w := Nat.mul_le_mul_right _ (by omega)
  have e0 : IntKind.wrap .i64 ((n : Int) + 1) = ((n + 1 : Nat) : Int) := by rw [wrap_id] <;> omega
  have e1 : IntKind.wrap .i64 ((n : Int) * (w : Int)) = ((n * w : Nat) : Int) := by
    rw [← Int.natCast_mul, wrap_id] <;> omega
  have e2 : IntKind.wrap .i64 (((n + 1 : Nat) : Int) * (w : Int)) = (((n + 1) * w : Nat) : Int) := by
    rw [← Int.natCast_mul, wrap_id] <;> omega
  rw [e0, e1, e2, slB_mid h0 hn]
  have e3 : (n + 1) * w - n * w = w := by rw [Nat.succ_mul]; omega
  simp only [Option.bind_some, e3]
/-- impl.SliceTensor: one element -/
theorem c_iSliceTensor_s {r : Rg} {H0 : AH} {a b c z1 z2 z3 sS sI sD sL : Sl} {t : Tn} {w j : Nat} {L' : List Int} (ht : TS H0 a b c t) (hw : widthR r = (w : Int)) (hw6 : w ≤ 6) (hd : DimsOk t.D) (hj : j < t.D.length) (hX : (t.X.length : Int) = prd t.D * w)
    (hin : t.X.all (fun x => inB x 0 (topR r)) = true) {n : Nat} {H : AH} {sX : Sl} {X : List Int} (hn : (n : Int) < prd (t.D.eraseIdx j))
    (hF : Fr H0 H [(sI, idxF (t.D.eraseIdx j) n), (sX, X), (sD, t.D.eraseIdx j), (sS, (strF t.D).eraseIdx j), (sL, L')]) (hXl : X.length = n * w) (hXa : X.all (fun x => inB x 0 (topR r)) = true) :
      ∃ sX' X' H', R (.loop F.iSliceTensor 1) [ssc sS, isc 0, ssc sI, r.pv, tpv a b c, tpv z1 z2 z3, tpv sL sD sX] H = cond (!(decide ((n : Int) + 1 < prd (t.D.eraseIdx j)))) (some ⟨1, [bsc true, tpv sL sD sX', tpv sL sD sX'], H'⟩) (R (.loop F.iSliceTensor 1) [ssc sS, isc 0, ssc sI, r.pv, tpv a b c, tpv z1 z2 z3, tpv sL sD sX'] H') ∧
        Fr H0 H' [(sI, idxF (t.D.eraseIdx j) (n + 1 : Nat)), (sX', X'), (sD, t.D.eraseIdx j), (sS, (strF t.D).eraseIdx j), (sL, L')] ∧ X'.length = (n + 1) * w ∧ X'.all (fun x => inB x 0 (topR r)) = true := by
  have hd' := dims_erase hd hj
  have hdl := hd'.1
  have hfit := idxF_fits (D := t.D.eraseIdx j) (n := (n : Int)) hd'.ge
  have hil := idxF_len (t.D.eraseIdx j) (n : Int)
  have hsl : ((strF t.D).eraseIdx j).length = (t.D.eraseIdx j).length := by rw [List.length_eraseIdx_of_lt (by rw [strF_len]; exact hj), List.length_eraseIdx_of_lt hj, strF_len]
  have hiv : ∀ v ∈ idxF (t.D.eraseIdx j) (n : Int), 0 ≤ v ∧ v ≤ 8 := fun v hv => by
    obtain ⟨d, hdm, h0, h1⟩ := fits_mem hfit v hv
    have := hd'.2.1 d hdm
    omega
  have hp4 := hd.2.2
  have hsv : ∀ x ∈ (strF t.D).eraseIdx j, 0 ≤ x ∧ x ≤ 4096 := fun x hx => by
    have := strF_ge hd.ge x ((List.eraseIdx_sublist _ j).subset hx)
    omega
  have e1 := c_idotOf (hF.is (s := sS) (l := (strF t.D).eraseIdx j) (by simp)) (hF.is (s := sI) (l := idxF (t.D.eraseIdx j) n) (by simp)) (by rw [hsl, hil]) (by omega) hsv hiv
  obtain ⟨q1, q2⟩ := dot_erase hfit hj hd.ge
  obtain ⟨o, ho⟩ : ∃ o : Nat, dotL ((strF t.D).eraseIdx j) (idxF (t.D.eraseIdx j) n) = (o : Int) := ⟨(dotL ((strF t.D).eraseIdx j) (idxF (t.D.eraseIdx j) n)).toNat, by omega⟩
  rw [ho] at e1 q1 q2
  obtain ⟨N, hN⟩ : ∃ N : Nat, prd t.D = (N : Int) := ⟨(prd t.D).toNat, by have := prd_pos hd.ge; omega⟩
  rw [hN] at hX q2 hp4
  have hXn : t.X.length = N * w := by have : ((t.X.length : Nat) : Int) = ((N * w : Nat) : Int) := by rw [hX, Int.natCast_mul]
                                      omega
  have hoN : (o + 1) * w ≤ N * w := Nat.mul_le_mul_right _ (by omega)
  have hcX := ht.X
  have hcn : t.X.length ≤ c.c := by have := hcX.n; have := hcX.c; omega
  have hNw : N * w ≤ 4096 * 6 := Nat.mul_le_mul (by omega) hw6
  have e2 := c_irawElem' (r := r) (H := H) (a := a) (b := b) (c := c) (n := o) hw (by omega) (by omega) (by omega) hw6
  have hpart := (hcX.le hF.le).part (o := o * w) (m := w) (by have : (o + 1) * w = o * w + w := by rw [Nat.add_mul, Nat.one_mul]
                                                              omega)
  have hml : ((t.X.drop (o * w)).take w).length = w := by
    have : (o + 1) * w = o * w + w := by rw [Nat.add_mul, Nat.one_mul]
    simp; omega
  have hma : ((t.X.drop (o * w)).take w).all (fun x => inB x 0 (topR r)) = true := List.all_eq_true.2 fun x hx => List.all_eq_true.1 hin x (List.mem_of_mem_drop (List.mem_of_mem_take hx))
  have hnw : n * w ≤ 4096 * 6 := Nat.mul_le_mul (by have := hd'.2.2; omega) hw6
  obtain ⟨sX', H1, e3, F1, l1⟩ := Fr.app [(sI, idxF (t.D.eraseIdx j) n)] (ys := [(sD, t.D.eraseIdx j), (sS, (strF t.D).eraseIdx j), (sL, L')]) (s := sX) (l := X) (m := (t.X.drop (o * w)).take w) hF (by omega)
  rw [hml] at e3
  have F1' : Fr H0 H1 ([] ++ (sI, idxF (t.D.eraseIdx j) n) :: [(sX', X ++ (t.X.drop (o * w)).take w), (sD, t.D.eraseIdx j), (sS, (strF t.D).eraseIdx j), (sL, L')]) := F1
  obtain ⟨H2, e4, m4⟩ := m_inextIndex (F1'.is (s := sD) (l := t.D.eraseIdx j) (by simp)) (by omega) (F1'.own (s := sI) (l := idxF (t.D.eraseIdx j) n) (by simp)) (fun hne => by
    have hine : idxF (t.D.eraseIdx j) (n : Int) ≠ [] := fun e => by
      rw [e] at hil
      exact hne (List.length_eq_zero_iff.1 hil.symm)
    exact (fr_ne F1' (p := (sI, idxF (t.D.eraseIdx j) n)) (q := (sD, t.D.eraseIdx j)) (xs := [(sX', X ++ (t.X.drop (o * w)).take w), (sD, t.D.eraseIdx j), (sS, (strF t.D).eraseIdx j), (sL, L')]) (List.Sublist.refl _) (by simp) hine hne).symm) hil (fun x hx => by have := hiv x hx; omega)
  rw [nextF_idx hd'.ge (by omega) hn] at e4 m4
  have F2 := Fr.mut [] F1' m4 (fun e => by
    have h1 := idxF_len (t.D.eraseIdx j) ((n : Int) + 1)
    rw [e] at hil
    exact List.length_eq_zero_iff.1 (by rw [h1, ← hil]; rfl))
  refine ⟨sX', X ++ (t.X.drop (o * w)).take w, H2, ?_, ?_, ?_, ?_⟩
  · rw [R_eq, e_iSliceTensor_1, e1]
    simp only [Option.bind_some, one_int]
    rw [Int.zero_add, wrap_id (by omega) (by omega), e2]
    simp only [Option.bind_some, one_sl]
    rw [hpart.rng]
    simp only [Option.bind_some]
    rw [e3]
    simp only [Option.bind_some]
    rw [e4]
    simp only [Option.bind_some, one_bool]
  · exact F2
  · rw [List.length_append, hml, hXl, Nat.add_mul, Nat.one_mul]
  · rw [List.all_append, hXa, hma]; rfl
/-- impl.SliceTensor: the elements -/
theorem c_iSliceTensor_1 {r : Rg} {H0 : AH} {a b c z1 z2 z3 sS sI sD sL : Sl} {t : Tn} {w j : Nat} {L' : List Int} (ht : TS H0 a b c t) (hw : widthR r = (w : Int)) (hw6 : w ≤ 6) (hd : DimsOk t.D) (hj : j < t.D.length) (hX : (t.X.length : Int) = prd t.D * w)
    (hin : t.X.all (fun x => inB x 0 (topR r)) = true) :
    ∀ (k n : Nat) (H : AH) (sX : Sl) (X : List Int), ((n + k + 1 : Nat) : Int) = prd (t.D.eraseIdx j) → Fr H0 H [(sI, idxF (t.D.eraseIdx j) n), (sX, X), (sD, t.D.eraseIdx j), (sS, (strF t.D).eraseIdx j), (sL, L')] → X.length = n * w → X.all (fun x => inB x 0 (topR r)) = true →
      ∃ sX' X' H', R (.loop F.iSliceTensor 1) [ssc sS, isc 0, ssc sI, r.pv, tpv a b c, tpv z1 z2 z3, tpv sL sD sX] H = some ⟨1, [bsc true, tpv sL sD sX', tpv sL sD sX'], H'⟩ ∧
        Fr H0 H' [(sX', X'), (sD, t.D.eraseIdx j), (sL, L')] ∧ (X'.length : Int) = prd (t.D.eraseIdx j) * w ∧ X'.all (fun x => inB x 0 (topR r)) = true := by
  intro k
  induction k with
  | zero =>
    intro n H sX X hn hF hXl hXa
    obtain ⟨sX', X', H', e, F1, x1, x2⟩ := c_iSliceTensor_s (z1 := z1) (z2 := z2) (z3 := z3) ht hw hw6 hd hj hX hin (by omega) hF hXl hXa
    refine ⟨sX', X', H', ?_, F1.sub ?_, ?_, x2⟩
    · rw [e, decide_eq_false (by omega)]; rfl
    · exact .cons _ (.cons₂ _ (.cons₂ _ (.cons _ (.cons₂ _ .slnil))))
    · rw [x1, ← hn]; simp
  | succ k ih =>
    intro n H sX X hn hF hXl hXa
    obtain ⟨sX', X', H', e, F1, x1, x2⟩ := c_iSliceTensor_s (z1 := z1) (z2 := z2) (z3 := z3) ht hw hw6 hd hj hX hin (by omega) hF hXl hXa
    obtain ⟨sX2, X2, H2, e2, F2, y1, y2⟩ := ih (n + 1) H' sX' X' (by omega) F1 x1 x2
    exact ⟨sX2, X2, H2, by rw [e, decide_eq_true (by omega)]; exact e2, F2, y1, y2⟩
end Go.Abs
/- Plans: a slice of a tensor at 0 (impl), whole. -/
namespace Go.Abs
set_option linter.all false
set_option maxRecDepth 10000

theorem prodC_min (lim : Int) : ∀ (l : List Int) (a : Int), 1 ≤ a → a ≤ lim + 1 → (∀ d ∈ l, 1 ≤ d) → prodC lim a l = min (a * prd l) (lim + 1)
  | [], a, h1, h2, _ => by simp only [prodC, prd]; omega
  | d :: l, a, h1, h2, hd => by
    have hd1 := hd d List.mem_cons_self
    have hp := prd_pos (a := l) fun x hx => hd x (List.mem_cons_of_mem _ hx)
    have h3 : a * 1 ≤ a * d := Int.mul_le_mul_of_nonneg_left hd1 (by omega)
    have e : a * prd (d :: l) = a * d * prd l := by simp only [prd]; rw [Int.mul_assoc]
    simp only [prodC]
    by_cases hc : lim + 1 < a * d
    · rw [if_pos hc, prodC_min lim l _ (by omega) (by omega) fun x hx => hd x (List.mem_cons_of_mem _ hx), e]
      have h4 : (lim + 1) * 1 ≤ (lim + 1) * prd l := Int.mul_le_mul_of_nonneg_left hp (by omega)
      have h5 : a * d * 1 ≤ a * d * prd l := Int.mul_le_mul_of_nonneg_left hp (by omega)
      omega
    · rw [if_neg hc, prodC_min lim l _ (by omega) (by omega) fun x hx => hd x (List.mem_cons_of_mem _ hx), e]
structure TOk (r : Rg) (t : Tn) : Prop where
  rg : ringB r = true
  ax : axesB t.L t.D = true
  d : DimsOk t.D
  len : (t.X.length : Int) = prd t.D * widthR r
  all : t.X.all (fun x => inB x 0 (topR r)) = true
theorem tensor_ok {r : Rg} {t : Tn} (h : tensorB r t = true) : TOk r t := by
  have hax := (tensor_dims h).2.2
  have hd := axes_dims hax
  simp only [tensorB, Bool.and_eq_true, decide_eq_true_eq] at h
  obtain ⟨⟨⟨h1, h2⟩, h3⟩, h4⟩ := h
  have hge : ∀ d ∈ t.D, 1 ≤ d := fun d hx => (hd.2.2 d hx).1
  have hp := prodC_min 4096 t.D 1 (by omega) (by omega) hge
  rw [Int.one_mul] at hp
  have hpos := prd_pos hge
  unfold sizeB at h2 h3
  rw [if_pos hax] at h2 h3
  by_cases hc : prodC 4096 1 t.D > 4096
  · rw [if_pos hc] at h2; exact absurd rfl h2
  · rw [if_neg hc] at h3
    have he : prodC 4096 1 t.D = prd t.D := by omega
    rw [he] at h3
    exact ⟨h1, hax, ⟨by have := hd.1; have := hd.2.1; omega, hd.2.2, by omega⟩, h3, h4⟩
theorem tensor_mk {r : Rg} {t : Tn} (h : TOk r t) : tensorB r t = true := by
  have hp : prodC 4096 1 t.D = prd t.D := by rw [prodC_eq (by omega) h.d.ge (by have := h.d.2.2; omega), Int.one_mul]
  have hs : sizeB t.L t.D = prd t.D := by
    unfold sizeB
    rw [if_pos h.ax, hp, if_neg (by have := h.d.2.2; omega)]
  have hpos := prd_pos h.d.ge
  simp only [tensorB, Bool.and_eq_true, decide_eq_true_eq, hs]
  exact ⟨⟨⟨h.rg, by omega⟩, h.len⟩, h.all⟩
theorem axesG_sub : ∀ {ls ds pre pre' : List Int}, (∀ x ∈ pre, x ∈ pre') → axesG pre' ls ds = true → axesG pre ls ds = true
  | [], _, _, _, _, _ => by simp [axesG]
  | n :: ls, [], _, _, _, h => by simp [axesG] at h
  | n :: ls, d :: ds, pre, pre', hs, h => by
    simp only [axesG, Bool.and_eq_true] at h ⊢
    refine ⟨⟨h.1.1, ?_⟩, axesG_sub (fun x hx => ?_) h.2⟩
    · have h3 := h.1.2
      simp only [Bool.not_eq_true', List.any_eq_false] at h3 ⊢
      exact fun x hx => h3 x (hs x hx)
    · rcases List.mem_append.1 hx with hx | hx
      · exact List.mem_append.2 (.inl (hs x hx))
      · exact List.mem_append.2 (.inr hx)
theorem axesG_erase : ∀ {ls ds pre : List Int} {j : Nat}, axesG pre ls ds = true → axesG pre (ls.eraseIdx j) (ds.eraseIdx j) = true
  | [], _, _, _, _ => by simp [axesG]
  | n :: ls, [], _, _, h => by simp [axesG] at h
  | n :: ls, d :: ds, pre, 0, h => by
    simp only [axesG, Bool.and_eq_true] at h
    simp only [List.eraseIdx_cons_zero]
    exact axesG_sub (fun x hx => List.mem_append.2 (.inl hx)) h.2
  | n :: ls, d :: ds, pre, j + 1, h => by
    simp only [axesG, List.eraseIdx_cons_succ, Bool.and_eq_true] at h ⊢
    exact ⟨h.1, axesG_erase h.2⟩
theorem axesB_erase {L D : List Int} {j : Nat} (hj : j < L.length) (h : axesB L D = true) : axesB (L.eraseIdx j) (D.eraseIdx j) = true := by
  simp only [axesB, Bool.and_eq_true, decide_eq_true_eq] at h ⊢
  have := h.1.2
  exact ⟨⟨by rw [List.length_eraseIdx_of_lt hj]; omega, by rw [List.length_eraseIdx_of_lt hj, List.length_eraseIdx_of_lt (by omega), this]⟩, axesG_erase h.2⟩
theorem findF_nodup : ∀ {l : List Int} (k : Nat) {i : Nat} (h : i < l.length), l.Nodup → findF l l[i] k = ((i + k : Nat) : Int)
  | [], _, i, h, _ => by simp at h
  | y :: l, k, 0, _, _ => by simp [findF]
  | y :: l, k, i + 1, h, hd => by
    have hh := List.nodup_cons.1 hd
    have hi : i < l.length := by simpa using h
    unfold findF
    have hne : (y == l[i]) = false := by
      have : y ≠ l[i] := fun e => hh.1 (e ▸ List.getElem_mem hi)
      simpa using this
    simp only [List.getElem_cons_succ, hne, Bool.false_eq_true, if_false]
    rw [findF_nodup (k + 1) hi hh.2]
    congr 1; omega
theorem dims_at {L D : List Int} (hd : L.Nodup) (hl : L.length = D.length) (j : Nat) : ((L.eraseIdx j).map fun x => D.getD (findF L x 0).toNat 0) = D.eraseIdx j := by
  have h1 : (L.map fun x => D.getD (findF L x 0).toNat 0) = D := by
    refine List.ext_getElem (by simpa using hl) fun i g1 g2 => ?_
    have hi : i < L.length := by simpa using g1
    rw [List.getElem_map, findF_nodup 0 hi hd]
    simp [List.getD_eq_getElem?_getD, g2]
  have h2 : ((L.eraseIdx j).map fun x => D.getD (findF L x 0).toNat 0) = (L.map fun x => D.getD (findF L x 0).toNat 0).eraseIdx j := by
    refine List.ext_getElem? fun i => ?_
    simp only [List.getElem?_eraseIdx, List.getElem?_map]
    split <;> rfl
  rw [h2, h1]
/-- impl.SliceTensor: the sizes -/
theorem c_iSliceTensor_0 {H0 : AH} {a b c sL z : Sl} {L D L' : List Int} (hL : IS H0 a L) (hD : IS H0 b D) (hl : L.length = D.length) (hl12 : L.length ≤ 12) (hl' : L'.length ≤ 12) (hsub : ∀ x ∈ L', x ∈ L) :
    ∀ (k i : Nat) (H : AH) (sD : Sl) (acc : List Int), i + k = L'.length → Fr H0 H [(sD, acc), (sL, L')] → acc.length ≤ i →
      ∃ sD' H', R (.loop F.iSliceTensor 0) [ssc sL, isc (L'.length : Int), isc (i : Int), tpv a b c, tpv sL sD z] H = some ⟨2, [tpv sL sD' z], H'⟩ ∧ Fr H0 H' [(sD', acc ++ (L'.drop i).map fun x => D.getD (findF L x 0).toNat 0), (sL, L')]
  | 0, i, H, sD, acc, hi, hF, ha => by
    obtain rfl : i = L'.length := by omega
    refine ⟨sD, H, by rw [R_eq, e_iSliceTensor_0, lt_self]; rfl, ?_⟩
    rw [List.drop_eq_nil_of_le (Nat.le_refl _)]
    simpa using hF
  | k + 1, i, H, sD, acc, hi, hF, ha => by
    have hlt : i < L'.length := by omega
    have hmem := hsub _ (List.getElem_mem hlt)
    have hf0 := (findF_mem L L'[i] 0).2 hmem
    obtain ⟨p, hp⟩ : ∃ p : Nat, findF L L'[i] 0 = (p : Int) := ⟨(findF L L'[i] 0).toNat, by omega⟩
    obtain ⟨_, hpl, _⟩ := findF_at hp
    have hpD : p < D.length := by omega
    have hle := hF.le.trans (Go.Abs.Le.app H [resB])
    have e1 := c_iaxisOf (b := b) (c := c) (hL.le hle) (by omega) L'[i]
    rw [hp] at e1
    obtain ⟨sD', H', e2, F2⟩ := Fr.push [] (ys := [(sL, L')]) (s := sD) (l := acc) hF (by omega) D[p]
    obtain ⟨s3, H3, e3, F3⟩ := c_iSliceTensor_0 (c := c) (z := z) hL hD hl hl12 hl' hsub k (i + 1) H' sD' (acc ++ [D[p]]) (by omega) F2 (by simp; omega)
    refine ⟨s3, H3, ?_, ?_⟩
    · have hnb : newAt (H ++ [resB]) (H.length + 0) 1 [.int .i64 D[p]] = newB H 1 [.int .i64 D[p]] := by
        rw [Nat.add_zero, newAt_ok (by simp) (by omega)]
        simp [newB]
      rw [R_eq, e_iSliceTensor_0, lt_true hlt, w1 hlt (by omega), cond_true, (hF.is (s := sL) (l := L') (by simp)).ldk hlt, reserve1, e1]
      simp only [Option.bind_some, one_int]
      rw [(hD.le hle).ldk hpD, hnb, e2]
      exact e3
    · rw [List.drop_eq_getElem_cons hlt, List.map_cons, hp]
      have : D.getD ((p : Int)).toNat 0 = D[p] := by simp [List.getD_eq_getElem?_getD, hpD]
      rw [this]
      rw [List.append_assoc, List.singleton_append] at F3
      exact F3
end Go.Abs
/- Plans: a slice of a tensor, the call. -/
namespace Go.Abs
set_option linter.all false
set_option maxRecDepth 10000

theorem agg3 {α : Type} (a b c : Sl) (k : Sl → Sl → Sl → Option α) (vs : List PV) : (((nthP (tpv a b c :: vs) 0).bind PV.agg?).bind fun l30 => cond (decide (l30.length = 3)) ((slAt l30 0).bind fun s31 => (slAt l30 1).bind fun s32 => (slAt l30 2).bind fun s33 => k s31 s32 s33) none) = k a b c := rfl
/-- impl.SliceTensor, of a valid tensor, at the value 0 of a label it has -/
theorem c_iSliceTensor {r : Rg} {H : AH} {a b c : Sl} {t : Tn} {x : Int} {j : Nat} (ht : TS H a b c t) (hok : tensorB r t = true) (hx : findF t.L x 0 = (j : Int)) :
    ∃ a' b' c' X' H', R (.fn F.iSliceTensor) [r.pv, tpv a b c, isc x, isc 0] H = some ⟨1, [tpv a' b' c', bsc true], H'⟩ ∧ NewT H H' a' b' c' ⟨t.L.eraseIdx j, t.D.eraseIdx j, X'⟩ ∧ TOk r ⟨t.L.eraseIdx j, t.D.eraseIdx j, X'⟩ := by
  have hT := tensor_ok hok
  obtain ⟨f1, f2, f3⟩ := tensor_dims hok
  obtain ⟨g1, g2, g3⟩ := tensor_facts hok
  have hnd := dist_nodup g2
  obtain ⟨_, hjl, hjx⟩ := findF_at hx
  simp only [Nat.sub_zero] at hjl hjx
  have hjD : j < t.D.length := by omega
  have hdj := hT.d.2.1 t.D[j] (List.getElem_mem hjD)
  have hd' := dims_erase hT.d hjD
  obtain ⟨wl, wh⟩ := width_range hT.rg
  obtain ⟨w, hw⟩ : ∃ w : Nat, widthR r = (w : Int) := ⟨(widthR r).toNat, by omega⟩
  have hlen := hT.len
  rw [hw] at hlen
  have e1 := c_iTensorOk r ht
  rw [hok] at e1
  have e2 := c_iaxisOf (b := b) (c := c) ht.L (by omega) x
  rw [hx] at e2
  obtain ⟨sL, H1, e3, o3, l3⟩ := c_iwithoutInt ht.L (by omega) x
  have hfe : (t.L.filter fun y => y != x) = t.L.eraseIdx j := by rw [← hjx]; exact filter_erase hnd hjl
  rw [hfe] at o3
  have hLl : (t.L.eraseIdx j).length ≤ 12 := by rw [List.length_eraseIdx_of_lt hjl]; omega
  have F1 : Fr H H1 [(⟨0, 0, 0, 0, true⟩, []), (sL, t.L.eraseIdx j)] := ((Fr.start H).new l3 o3).empty 0
  obtain ⟨sD, H2, e4, F2⟩ := c_iSliceTensor_0 (c := c) (z := ⟨0, 0, 0, 0, true⟩) ht.L ht.D f1 f2 hLl (fun y hy => (List.eraseIdx_sublist _ j).subset hy) (t.L.eraseIdx j).length 0 H1 ⟨0, 0, 0, 0, true⟩ [] (by omega) F1 (by simp)
  rw [List.drop_zero, List.nil_append, dims_at hnd f1] at F2
  -- steps
  have hL2 := F2.is (s := sL) (l := t.L.eraseIdx j) (by simp)
  have e5 := c_istridesOf (c := c) (ht.L.le F2.le) (ht.D.le F2.le) hL2 hLl f1 hT.d
  rw [str_erase hnd f1 j] at e5
  have hsl : ((strF t.D).eraseIdx j).length = (t.L.eraseIdx j).length := by rw [List.length_eraseIdx_of_lt (by rw [strF_len]; exact hjD), List.length_eraseIdx_of_lt hjl, strF_len]; omega
  have n5 : New H2 (H2 ++ [⟨ics ((strF t.D).eraseIdx j), .rw, 1⟩]) ⟨H2.length, 0, (t.L.eraseIdx j).length, (t.L.eraseIdx j).length, true⟩ ((strF t.D).eraseIdx j) := by
    have := new_app H2 ((strF t.D).eraseIdx j)
    unfold rowAt at this
    rw [hsl] at this
    exact this
  have F3 := F2.newN n5
  generalize hH3 : H2 ++ [⟨ics ((strF t.D).eraseIdx j), .rw, 1⟩] = H3 at *
  -- the step of the label itself
  have l4 := Go.Abs.Le.app H3 [⟨[.int .i64 x], .rw, 1⟩]
  have F4 := F3.ext l4
  have hone : IS (H3 ++ [⟨[.int .i64 x], .rw, 1⟩]) ⟨H3.length, 0, 1, 1, true⟩ [x] := IS.of_blk (l := [x]) (c := 1) app_get (by simp)
  have e6 := c_istridesOf (c := c) (ht.L.le F4.le) (ht.D.le F4.le) hone (by simp) f1 hT.d
  generalize hst : strG [x] t.L.reverse t.D.reverse 1 (List.replicate [x].length 0) = st at e6
  have hstl : st.length = 1 := by rw [← hst, strG_val _ _ _ _ _ (by simp)]; simp
  obtain ⟨y, rfl⟩ : ∃ y, st = [y] := by
    match st, hstl with
    | [y], _ => exact ⟨y, rfl⟩
  have F5 := F4.ext (Go.Abs.Le.app (H3 ++ [⟨[.int .i64 x], .rw, 1⟩]) [⟨ics [y], .rw, 1⟩])
  have hst1 : IS ((H3 ++ [⟨[.int .i64 x], .rw, 1⟩]) ++ [⟨ics [y], .rw, 1⟩]) ⟨(H3 ++ [⟨[.int .i64 x], .rw, 1⟩] : AH).length, 0, [x].length, [x].length, true⟩ [y] := IS.of_blk (l := [y]) app_get (by simp)
  generalize hH5 : (H3 ++ [⟨[.int .i64 x], .rw, 1⟩]) ++ [⟨ics [y], .rw, 1⟩] = H5 at *
  -- the index
  have F6 := F5.mk0 (t.L.eraseIdx j).length
  have hLD : (t.L.eraseIdx j).length = (t.D.eraseIdx j).length := by rw [List.length_eraseIdx_of_lt hjl, List.length_eraseIdx_of_lt hjD, f1]
  have hidx : List.replicate (t.L.eraseIdx j).length (0 : Int) = idxF (t.D.eraseIdx j) ((0 : Nat) : Int) := by rw [hLD]; exact (idxF_zero _).symm
  have F7 : Fr H (H5 ++ [⟨ics (List.replicate (t.L.eraseIdx j).length 0), .rw, 1⟩]) [(⟨H5.length, 0, (t.L.eraseIdx j).length, (t.L.eraseIdx j).length, true⟩, idxF (t.D.eraseIdx j) ((0 : Nat) : Int)), (⟨0, 0, 0, 0, true⟩, []), (sD, t.D.eraseIdx j), (⟨H2.length, 0, (t.L.eraseIdx j).length, (t.L.eraseIdx j).length, true⟩, (strF t.D).eraseIdx j), (sL, t.L.eraseIdx j)] := by
    have F6' := (F6.empty 0)
    rw [hidx] at F6'
    rw [hidx]
    refine F6'.perm ?_
    refine (List.Perm.swap _ _ _).trans (.cons _ (.cons _ ?_))
    exact List.Perm.swap _ _ _
  have hN := prd_pos hd'.ge
  obtain ⟨sX, X', H6, e7, F8, x1, x2⟩ := c_iSliceTensor_1 (z1 := ⟨0, 0, 0, 0, true⟩) (z2 := ⟨0, 0, 0, 0, true⟩) (z3 := ⟨0, 0, 0, 0, true⟩) ht hw (by omega) hT.d hjD hlen hT.all ((prd (t.D.eraseIdx j)).toNat - 1) 0 _ ⟨0, 0, 0, 0, true⟩ [] (by omega) F7 (by simp) rfl
  refine ⟨sL, sD, sX, X', H6, ?_, ⟨F8.le, F8.rows.perm (List.reverse_perm [(sX, X'), (sD, t.D.eraseIdx j), (sL, t.L.eraseIdx j)])⟩, ⟨hT.rg, axesB_erase hjl hT.ax, hd', by rw [hw]; exact x1, x2⟩⟩
  have e4 : R (.loop F.iSliceTensor 0) [ssc sL, isc ((t.L.eraseIdx j).length : Int), isc 0, tpv a b c, tpv sL ⟨0, 0, 0, 0, true⟩ ⟨0, 0, 0, 0, true⟩] H1 = _ := e4
  rw [R_eq, e_iSliceTensor, e1]
  simp only [Option.bind_some, one_bool, Bool.not_true, cond_false]
  rw [e2]
  simp only [Option.bind_some, one_int]
  rw [decide_eq_false (show ¬ (j : Int) < 0 by omega), cond_false, decide_eq_false (show ¬ (0 : Int) < 0 by omega), cond_false]
  rw [ht.D.ldk hjD, decide_eq_false (show ¬ (0 : Int) ≥ t.D[j] by omega), cond_false, e3]
  simp only [Option.bind_some, one_sl]
  rw [o3.n, e4]
  simp only [Option.bind_some, Nat.beq, cond_true]
  rw [agg3, e5]
  simp only [Option.bind_some, one_sl]
  have hnb : newB H3 1 [.int .i64 x] = some (H3.length, H3 ++ [⟨[.int .i64 x], .rw, 1⟩]) := rfl
  rw [hnb]
  simp only [Option.bind_some]
  rw [e6]
  simp only [Option.bind_some, one_sl]
  have hz := hst1.ldk (i := 0) (by simp) (fun n45 => (mkB H5 1 8 [.int .i64 0] (sL.n : Int) (sL.n : Int)).bind fun m46 =>
        (R (.loop F.iSliceTensor 1) [ssc ⟨H2.length, 0, (t.L.eraseIdx j).length, (t.L.eraseIdx j).length, true⟩, isc (IntKind.wrap .i64 ((0 : Int) * n45)), ssc m46.1, r.pv, tpv a b c, tpv ⟨0, 0, 0, 0, true⟩ ⟨0, 0, 0, 0, true⟩ ⟨0, 0, 0, 0, true⟩, tpv sL sD ⟨0, 0, 0, 0, true⟩] m46.2).bind fun r61 =>
        cond (Nat.beq r61.e 1) ((nthP r61.vs 0).bind fun p62 => p62.sc?.bind fun c63 => (boolAt [c63] 0).bind fun b64 => ((nthP r61.vs 1).bind PV.agg?).bind fun l65 => cond (decide (l65.length = 3)) ((slAt l65 0).bind fun s66 => (slAt l65 1).bind fun s67 => (slAt l65 2).bind fun s68 =>
          ((nthP r61.vs 2).bind PV.agg?).bind fun l69 => cond (decide (l69.length = 3)) ((slAt l69 0).bind fun s70 => (slAt l69 1).bind fun s71 => (slAt l69 2).bind fun s72 => some (⟨1, [.agg [.sl s66, .sl s67, .sl s68], .sc (.bool b64)], r61.H⟩ : Out)) none) none) none)
  refine hz.trans ?_
  have hw0 : IntKind.wrap .i64 ((0 : Int) * [y][0]) = 0 := by rw [Int.zero_mul]; decide
  rw [hw0, o3.n, mk_ints (by omega)]
  simp only [Option.bind_some]
  have e7 : R (.loop F.iSliceTensor 1) [ssc ⟨H2.length, 0, (t.L.eraseIdx j).length, (t.L.eraseIdx j).length, true⟩, isc 0, ssc ⟨H5.length, 0, (t.L.eraseIdx j).length, (t.L.eraseIdx j).length, true⟩, r.pv, tpv a b c, tpv ⟨0, 0, 0, 0, true⟩ ⟨0, 0, 0, 0, true⟩ ⟨0, 0, 0, 0, true⟩, tpv sL sD ⟨0, 0, 0, 0, true⟩] (H5 ++ [⟨ics (List.replicate (t.L.eraseIdx j).length 0), .rw, 1⟩]) = _ := e7
  rw [e7]
  simp only [Option.bind_some, Nat.beq, cond_true]
  rfl
end Go.Abs
/- Pure: a network sliced at a label. -/
namespace Go.Abs
set_option linter.all false

def slSh (x : Int) (L D : List Int) : List Int × List Int := if 0 ≤ findF L x 0 then (L.eraseIdx (findF L x 0).toNat, D.eraseIdx (findF L x 0).toNat) else (L, D)
structure SlT (r : Rg) (x : Int) (t t' : Tn) : Prop where
  sh : (t'.L, t'.D) = slSh x t.L t.D
  ok : tensorB r t' = true
inductive SlL (r : Rg) (x : Int) : List Tn → List Tn → Prop where
  | nil : SlL r x [] []
  | cons {t t' : Tn} {ts ts' : List Tn} : SlT r x t t' → SlL r x ts ts' → SlL r x (t :: ts) (t' :: ts')
theorem SlL.app {r : Rg} {x : Int} {a a' b b' : List Tn} (h : SlL r x a a') (k : SlL r x b b') : SlL r x (a ++ b) (a' ++ b') := by
  induction h with
  | nil => exact k
  | cons h1 _ ih => exact .cons h1 ih
theorem SlL.len {r : Rg} {x : Int} {a a' : List Tn} (h : SlL r x a a') : a'.length = a.length := by
  induction h with
  | nil => rfl
  | cons _ _ ih => simp [ih]
theorem SlL.ok {r : Rg} {x : Int} {a a' : List Tn} (h : SlL r x a a') : ∀ t ∈ a', tensorB r t = true := by
  induction h with
  | nil => intro t ht; simp at ht
  | cons h1 _ ih =>
    intro t ht
    rcases List.mem_cons.1 ht with rfl | ht
    · exact h1.ok
    · exact ih t ht
def lk : List Int → List Int → Int → Option Int
  | a :: L, d :: D, y => if a == y then some d else lk L D y
  | _, _, _ => none
theorem lk_find : ∀ {L D : List Int} (y : Int) (k : Nat), L.length = D.length → (lk L D y = none ∧ findF L y k = -1) ∨ (∃ d, lk L D y = some d ∧ (k : Int) ≤ findF L y k ∧ D.getD ((findF L y k).toNat - k) 0 = d)
  | [], [], y, k, _ => .inl ⟨rfl, rfl⟩
  | a :: L, d :: D, y, k, h => by
    unfold lk findF
    by_cases e : (a == y) = true
    · rw [if_pos e, if_pos e]
      exact .inr ⟨d, rfl, Int.le_refl _, by simp⟩
    · rw [if_neg e, if_neg e]
      rcases lk_find (L := L) (D := D) y (k + 1) (by simpa using h) with ⟨h1, h2⟩ | ⟨d', h1, h2, h3⟩
      · exact .inl ⟨h1, h2⟩
      · refine .inr ⟨d', h1, by omega, ?_⟩
        have : (findF L y (k + 1)).toNat - k = ((findF L y (k + 1)).toNat - (k + 1)) + 1 := by omega
        rw [this]
        simpa using h3
  | [], _ :: _, _, _, h => by simp at h
  | _ :: _, [], _, _, h => by simp at h
theorem lk_dim {t : Tn} {ts : List Tn} (y : Int) (h : t.L.length = t.D.length) : dimF (t :: ts) y = (lk t.L t.D y).getD (dimF ts y) := by
  have e : dimF (t :: ts) y = if 0 ≤ findF t.L y 0 then t.D.getD (findF t.L y 0).toNat 0 else dimF ts y := rfl
  rw [e]
  rcases lk_find y 0 h with ⟨h1, h2⟩ | ⟨d, h1, h2, h3⟩
  · rw [h1, if_neg (by omega)]; rfl
  · rw [h1, if_pos (by omega)]
    simpa using h3
theorem lk_erase : ∀ {L D : List Int} {j : Nat} {y : Int} (hj : j < L.length), L[j] ≠ y → lk (L.eraseIdx j) (D.eraseIdx j) y = lk L D y
  | [], _, _, _, hj, _ => by simp at hj
  | a :: L, [], 0, y, hj, h => by
    simp only [List.eraseIdx_cons_zero, List.eraseIdx_nil]
    cases L <;> rfl
  | a :: L, [], j + 1, y, hj, h => by simp [lk]
  | a :: L, d :: D, 0, y, hj, h => by
    have e : (a == y) = false := by simpa using h
    simp [lk, e]
  | a :: L, d :: D, j + 1, y, hj, h => by
    simp only [List.eraseIdx_cons_succ, lk]
    rw [lk_erase (by simpa using hj) (by simpa using h)]
theorem SlT.lk {r : Rg} {x : Int} {t t' : Tn} (h : SlT r x t t') {y : Int} (hy : y ≠ x) : lk t'.L t'.D y = lk t.L t.D y := by
  have hs := h.sh
  unfold slSh at hs
  by_cases hf : 0 ≤ findF t.L x 0
  · rw [if_pos hf] at hs
    obtain ⟨j, hj⟩ : ∃ j : Nat, findF t.L x 0 = (j : Int) := ⟨(findF t.L x 0).toNat, by omega⟩
    rw [hj, Int.toNat_natCast] at hs
    obtain ⟨_, hjl, hjx⟩ := findF_at hj
    simp only [Nat.sub_zero] at hjl hjx
    have h1 := congrArg Prod.fst hs
    have h2 := congrArg Prod.snd hs
    simp only at h1 h2
    rw [h1, h2]
    exact lk_erase hjl (by rw [hjx]; exact Ne.symm hy)
  · rw [if_neg hf] at hs
    have h1 := congrArg Prod.fst hs
    have h2 := congrArg Prod.snd hs
    simp only at h1 h2
    rw [h1, h2]
theorem SlL.dim {r : Rg} {x : Int} {a a' : List Tn} (h : SlL r x a a') (hok : ∀ t ∈ a, tensorB r t = true) {y : Int} (hy : y ≠ x) : dimF a' y = dimF a y := by
  induction h with
  | nil => rfl
  | cons h1 _ ih =>
    rw [lk_dim y (tensor_dims h1.ok).1, lk_dim y (tensor_dims (hok _ List.mem_cons_self)).1, h1.lk hy, ih fun t ht => hok t (List.mem_cons_of_mem _ ht)]
theorem slSh_mem {x : Int} {L D : List Int} (hd : L.Nodup) : ∀ y ∈ (slSh x L D).1.zip (slSh x L D).2, y ∈ L.zip D ∧ y.1 ≠ x := fun y hy => by
  unfold slSh at hy
  by_cases hf : 0 ≤ findF L x 0
  · rw [if_pos hf] at hy
    obtain ⟨j, hj⟩ : ∃ j : Nat, findF L x 0 = (j : Int) := ⟨(findF L x 0).toNat, by omega⟩
    rw [hj, Int.toNat_natCast] at hy
    obtain ⟨_, hjl, hjx⟩ := findF_at hj
    simp only [Nat.sub_zero] at hjl hjx
    have hz : ∀ (L D : List Int) (j : Nat), (L.eraseIdx j).zip (D.eraseIdx j) = (L.zip D).eraseIdx j := by
      intro L
      induction L with
      | nil => intro D j; simp
      | cons a L ih =>
        intro D j
        cases D with
        | nil => simp
        | cons d D =>
          cases j with
          | zero => simp
          | succ j => simp [ih]
    refine ⟨?_, ?_⟩
    · simp only [hz] at hy
      exact (List.eraseIdx_sublist _ j).subset hy
    · have h1 := (List.of_mem_zip hy).1
      rw [← filter_erase hd hjl, hjx] at h1
      exact bne_iff_ne.1 (List.mem_filter.1 h1).2
  · rw [if_neg hf] at hy
    refine ⟨hy, fun e => hf ((findF_mem L x 0).2 ?_)⟩
    have := (List.of_mem_zip hy).1
    rw [← e]; exact this
theorem SlL.cons_ok {r : Rg} {x : Int} : ∀ {ts ts' pre pre' : List Tn}, SlL r x ts ts' → SlL r x pre pre' → (∀ t ∈ pre, tensorB r t = true) → consG r pre ts = true → consG r pre' ts' = true
  | [], _, _, _, .nil, _, _, _ => by simp [consG]
  | t :: ts, _, pre, pre', .cons (t' := t') h1 h2, hp, hok, h => by
    simp only [consG, Bool.and_eq_true] at h ⊢
    refine ⟨⟨h1.ok, ?_⟩, SlL.cons_ok h2 (hp.app (.cons h1 .nil)) (fun u hu => ?_) h.2⟩
    · have ha := h.1.2
      unfold agreeB at ha ⊢
      refine List.all_eq_true.2 fun y hy => ?_
      have hsh := h1.sh
      have e1 := congrArg Prod.fst hsh
      have e2 := congrArg Prod.snd hsh
      simp only at e1 e2
      rw [e1, e2] at hy
      obtain ⟨hm, hne⟩ := slSh_mem (dist_nodup (tensor_facts h.1.1).2.1) y hy
      have := List.all_eq_true.1 ha y hm
      rw [hp.dim hok hne]
      exact this
    · rcases List.mem_append.1 hu with hu | hu
      · exact hok u hu
      · simp at hu; subst hu; exact h.1.1
structure SlN (x : Int) (n n' : Nw) : Prop where
  r : n'.r = n.r
  op : n'.op = n.op
  ts : SlL n.r x n.ts n'.ts
theorem net_slice {x : Int} {n n' : Nw} (h : SlN x n n') (hn : netB n = true) (hx : x ∉ n.op) : netB n' = true := by
  have hm := net_mem hn
  simp only [netB, Bool.and_eq_true, decide_eq_true_eq] at hn ⊢
  obtain ⟨⟨⟨h1, h2⟩, h3⟩, h4⟩ := hn
  refine ⟨⟨⟨by rw [h.r]; exact h1, by rw [h.ts.len]; exact h2⟩, by rw [h.r]; exact SlL.cons_ok h.ts .nil (by simp) h3⟩, ?_⟩
  rw [h.op]
  have : n.op.map (dimF n'.ts) = n.op.map (dimF n.ts) := List.map_congr_left fun y hy => h.ts.dim hm fun e => hx (e ▸ hy)
  rw [this]; exact h4
end Go.Abs
/- Plans: a slice of a network at 0 (impl). -/
namespace Go.Abs
set_option linter.all false
set_option maxRecDepth 10000

/-- impl.copyTensor, made anew -/
theorem n_icopyTensor {H : AH} {a b c : Sl} {t : Tn} (h : TS H a b c t) (hs : TnSmall t) :
    ∃ a' b' c' H', R (.fn F.icopyTensor) [tpv a b c] H = some ⟨1, [tpv a' b' c'], H'⟩ ∧ NewT H H' a' b' c' t := by
  obtain ⟨a', H1, e1, l1, o1⟩ := c_icopyInts h.L (by have := hs.1; omega)
  obtain ⟨b', H2, e2, l2, o2⟩ := c_icopyInts (h.D.le l1) (by have := hs.2.1; omega)
  obtain ⟨c', H3, e3, l3, o3⟩ := c_icopyInts (h.X.le (l1.trans l2)) (by have := hs.2.2; omega)
  have F3 := (((Fr.start H).new l1 o1).new l2 o2).new l3 o3
  refine ⟨a', b', c', H3, ?_, ⟨F3.le, F3.rows.perm (List.reverse_perm [(c', t.X), (b', t.D), (a', t.L)])⟩⟩
  rw [R_eq, e_icopyTensor, e1]
  simp only [Option.bind_some, one_sl]
  rw [e2]
  simp only [Option.bind_some, one_sl]
  rw [e3]
  simp only [Option.bind_some, one_sl]
theorem agg3z {α : Type} (a b c : Sl) (k : Sl → Sl → Sl → Option α) : (((nthP [tpv a b c] 0).bind PV.agg?).bind fun l30 => cond (decide (l30.length = 3)) ((slAt l30 0).bind fun s31 => (slAt l30 1).bind fun s32 => (slAt l30 2).bind fun s33 => k s31 s32 s33) none) = k a b c := rfl
theorem ok_small {r : Rg} {t : Tn} (h : tensorB r t = true) : TnSmall t := by
  have hT := tensor_ok h
  obtain ⟨w1, w2⟩ := width_range hT.rg
  have h1 := hT.d.1
  have h2 := (tensor_dims h).1
  have h3 := hT.d.2.2
  have h4 := prd_pos hT.d.ge
  have h5 := hT.len
  have h6 : prd t.D * widthR r ≤ 4096 * 6 := Int.mul_le_mul h3 w2 (by omega) (by omega)
  exact ⟨by omega, by omega, by omega⟩
/-- A tensor of a network is sliced, or copied where it has not the label. -/
theorem slice_one {r : Rg} {H : AH} {a b c : Sl} {t : Tn} (x : Int) (ht : TS H a b c t) (hok : tensorB r t = true) {α : Type} (K : Sl → Sl → Sl → AH → Option α) :
    ∃ a' b' c' t' H', SlT r x t t' ∧ NewT H H' a' b' c' t' ∧
      ((R (.fn F.icopyTensor) [tpv a b c] H).bind fun r18 => (oneP r18.vs).bind fun p19 => p19.agg?.bind fun l20 => cond (decide (l20.length = 3)) ((slAt l20 0).bind fun s21 => (slAt l20 1).bind fun s22 => (slAt l20 2).bind fun s23 =>
        (((R (.fn F.iaxisOf) [tpv a b c, isc x] r18.H).bind fun r24 => (oneP r24.vs).bind fun p25 => p25.sc?.bind fun c26 => (intAt .i64 [c26] 0).bind fun n27 => cond (decide (n27 ≥ 0))
          ((R (.fn F.iSliceTensor) [r.pv, tpv a b c, isc x, isc 0] r24.H).bind fun r28 => (lenP r28.vs 2).bind fun _ => (nthP r28.vs 0).bind fun p29 => p29.agg?.bind fun l30 => cond (decide (l30.length = 3)) ((slAt l30 0).bind fun s31 => (slAt l30 1).bind fun s32 => (slAt l30 2).bind fun s33 => (nthP r28.vs 1).bind fun p34 => p34.sc?.bind fun c35 => (boolAt [c35] 0).bind fun b36 => some ⟨0, [.agg [.sl s31, .sl s32, .sl s33]], r28.H⟩) none)
          (some ⟨0, [.agg [.sl s21, .sl s22, .sl s23]], r24.H⟩) : Option Out)).bind fun r37 => cond (Nat.beq r37.e 0) (((nthP r37.vs 0).bind PV.agg?).bind fun l38 => cond (decide (l38.length = 3)) ((slAt l38 0).bind fun s39 => (slAt l38 1).bind fun s40 => (slAt l38 2).bind fun s41 => K s39 s40 s41 r37.H) none) none) none) = K a' b' c' H' := by
  have hs := ok_small hok
  obtain ⟨a1, b1, c1, H1, e1, n1⟩ := n_icopyTensor ht hs
  have e2 := c_iaxisOf (b := b) (c := c) (ht.L.le n1.le) (by have := hs.1; omega) x
  by_cases hf : 0 ≤ findF t.L x 0
  · obtain ⟨j, hj⟩ : ∃ j : Nat, findF t.L x 0 = (j : Int) := ⟨(findF t.L x 0).toNat, by omega⟩
    obtain ⟨a2, b2, c2, X', H2, e3, n2, ok2⟩ := c_iSliceTensor (ht.le n1.le) hok hj
    refine ⟨a2, b2, c2, ⟨t.L.eraseIdx j, t.D.eraseIdx j, X'⟩, H2, ⟨?_, tensor_mk ok2⟩, ⟨n1.le.trans n2.le, n2.rows.low n1.le.len⟩, ?_⟩
    · unfold slSh
      rw [if_pos hf, hj, Int.toNat_natCast]
    · rw [e1]
      simp only [Option.bind_some, o_sss]
      rw [e2]
      simp only [Option.bind_some, one_int, decide_eq_true (show findF t.L x 0 ≥ 0 from hf), cond_true]
      rw [e3]
      simp only [Option.bind_some, t_sss_b, Nat.beq, cond_true]
      rw [agg3z]
  · refine ⟨a1, b1, c1, t, H1, ⟨?_, hok⟩, n1, ?_⟩
    · unfold slSh
      rw [if_neg hf]
    · rw [e1]
      simp only [Option.bind_some, o_sss]
      rw [e2]
      simp only [Option.bind_some, one_int, decide_eq_false (show ¬ findF t.L x 0 ≥ 0 from hf), cond_false, Nat.beq, cond_true]
      rw [agg3z]
/-- impl.SliceNetwork: the tensors -/
theorem c_iSliceNetwork_0 {r : Rg} {H0 : AH} {s u sOp : Sl} {ts : List Tn} {op : List Int} (x : Int) (hT : T3 H0 s ts) (hl : ts.length ≤ 12) (hok : ∀ t ∈ ts, tensorB r t = true) :
    ∀ (k i : Nat) (H : AH) (so : Sl) (xs : List Tri) (acc : List Tn), i + k = ts.length → NetR H0 H so xs acc [(sOp, op)] → SlL r x (ts.take i) acc →
      ∃ s' xs' ts' H', R (.loop F.iSliceNetwork 0) [isc x, isc 0, ssc s, isc (ts.length : Int), isc (i : Int), npv r s u, npv r so sOp] H = some ⟨2, [npv r s' sOp], H'⟩ ∧ NetR H0 H' s' xs' ts' [(sOp, op)] ∧ SlL r x ts ts'
  | 0, i, H, so, xs, acc, hi, hN, hS => by
    obtain rfl : i = ts.length := by omega
    rw [List.take_length] at hS
    exact ⟨so, xs, acc, H, by rw [R_eq, e_iSliceNetwork_0, lt_self]; rfl, hN, hS⟩
  | k + 1, i, H, so, xs, acc, hi, hN, hS => by
    have hlt : i < ts.length := by omega
    have hal := hS.len
    rw [List.length_take, Nat.min_eq_left (by omega)] at hal
    obtain ⟨a, b, c, ht, kt⟩ := (hT.le hN.fr.le).ld hlt
    have hoki := hok _ (List.getElem_mem hlt)
    obtain ⟨a', b', c', t', H1, hsl, n1, e1⟩ := slice_one x ht hoki (fun s39 s40 s41 H37 => (newB H37 3 [.sl s39, .sl s40, .sl s41]).bind fun h42 => (rng h42.2 h42.1 0 (1 * 3)).bind fun l43 => (appB h42.2 3 72 so l43 1).bind fun m44 =>
      R (.loop F.iSliceNetwork 0) [isc x, isc 0, ssc s, isc (ts.length : Int), isc ((i + 1 : Nat) : Int), npv r s u, npv r m44.1 sOp] m44.2)
    have F1 := hN.fr.newT n1
    obtain ⟨so', H2, e2, F2, O2, l2, _⟩ := push_tensor' (a := a') (b := b') (c := c') F1 (hN.out.le n1.le) (by have := hN.len; omega)
    have F3 := Fr.snocT (xs := xs) (ts := acc) F2 hN.len
    have hS' : SlL r x (ts.take (i + 1)) (acc ++ [t']) := by
      rw [take_snocT hlt]
      exact hS.app (.cons hsl .nil)
    obtain ⟨s', xs', ts', H3, e3, N3, S3⟩ := c_iSliceNetwork_0 (u := u) x hT hl hok k (i + 1) H2 so' (xs ++ [(a', b', c')]) (acc ++ [t']) (by omega) ⟨F3, by have := hN.len; simp [this], O2⟩ hS'
    refine ⟨s', xs', ts', H3, ?_, N3, S3⟩
    rw [R_eq, e_iSliceNetwork_0, lt_true hlt, w1 hlt (by omega), cond_true, kt]
    refine e1.trans ?_
    rw [e2]
    exact e3
/-- impl.SliceNetwork, of a valid network, at the value 0 of a label that is there and is not open -/
theorem c_iSliceNetwork {H : AH} {s u : Sl} {n : Nw} {x : Int} (h : NS H s u n) (hn : netB n = true) (h0 : 0 ≤ x) (h1 : x ≤ 99) (hd : 1 ≤ dimF n.ts x) (hx : x ∉ n.op) :
    ∃ s' u' n' H', R (.fn F.iSliceNetwork) [npv n.r s u, isc x, isc 0] H = some ⟨1, [npv n.r s' u', bsc true], H'⟩ ∧ Go.Abs.Le H H' ∧ NS H' s' u' n' ∧ SlN x n n' := by
  obtain ⟨b1, b2, b3⟩ := netB_small hn
  obtain ⟨H1, e1, l1⟩ := c_iNetworkOk h (by omega)
  rw [hn] at e1
  obtain ⟨H2, e2, l2⟩ := c_iDimOf (h.le l1) hn h0 h1
  have l12 := l1.trans l2
  obtain ⟨u', H3, e3, o3, l3⟩ := c_iwithoutInt (h.op.le l12) (by omega) x
  have hfe : (n.op.filter fun y => y != x) = n.op := List.filter_eq_self.2 fun y hy => bne_iff_ne.2 fun e => hx (e ▸ hy)
  rw [hfe] at o3
  have N0 : NetR H2 H3 ⟨0, 0, 0, 0, true⟩ [] [] [(u', n.op)] := ⟨by simpa [rowsT] using (Fr.start H2).new l3 o3, rfl, OOut.nil _ _ _⟩
  obtain ⟨s', xs', ts', H4, e4, N4, S4⟩ := c_iSliceNetwork_0 (r := n.r) (u := u) x (h.ts.le l12) b1 (net_mem hn) n.ts.length 0 H3 ⟨0, 0, 0, 0, true⟩ [] [] (by omega) N0 .nil
  refine ⟨s', u', ⟨n.r, ts', n.op⟩, H4, ?_, l12.trans N4.fr.le, (N4.neto (r := n.r)).ns, ⟨rfl, rfl, S4⟩⟩
  have e4 : R (.loop F.iSliceNetwork 0) [isc x, isc 0, ssc s, isc (n.ts.length : Int), isc 0, npv n.r s u, npv n.r ⟨0, 0, 0, 0, true⟩ u'] H3 = _ := e4
  rw [R_eq, e_iSliceNetwork, e1]
  simp only [Option.bind_some, one_bool, Bool.not_true, cond_false]
  rw [decide_eq_false (show ¬ (0 : Int) < 0 by omega), cond_false, e2]
  simp only [Option.bind_some, one_int]
  rw [decide_eq_false (show ¬ (0 : Int) ≥ dimF n.ts x by omega), cond_false, e3]
  simp only [Option.bind_some, one_sl]
  rw [h.ts.1, e4]
  rfl
end Go.Abs
/- Plans: a network sliced at labels (impl). -/
namespace Go.Abs
set_option linter.all false
set_option maxRecDepth 10000

def shp (ts : List Tn) : List (List Int × List Int) := ts.map fun t => (t.L, t.D)
def slS (x : Int) (S : List (List Int × List Int)) : List (List Int × List Int) := S.map fun p => slSh x p.1 p.2
def slA (l : List Int) (S : List (List Int × List Int)) : List (List Int × List Int) := l.foldl (fun S x => slS x S) S
theorem SlL.shp {r : Rg} {x : Int} {a a' : List Tn} (h : SlL r x a a') : shp a' = slS x (shp a) := by
  induction h with
  | nil => rfl
  | cons h1 _ ih =>
    unfold Go.Abs.shp slS at ih ⊢
    simp only [List.map_cons, ih, h1.sh]
theorem dim_shp : ∀ {a b : List Tn}, shp a = shp b → dimF a = dimF b
  | [], [], _ => rfl
  | t :: a, u :: b, h => by
    unfold shp at h
    simp only [List.map_cons, List.cons.injEq, Prod.mk.injEq] at h
    have ih := dim_shp (a := a) (b := b) h.2
    funext y
    show (if 0 ≤ findF t.L y 0 then t.D.getD (findF t.L y 0).toNat 0 else dimF a y) = (if 0 ≤ findF u.L y 0 then u.D.getD (findF u.L y 0).toNat 0 else dimF b y)
    rw [h.1.1, h.1.2, ih]
  | [], _ :: _, h => by simp [shp] at h
  | _ :: _, [], h => by simp [shp] at h
theorem W0_shp {a b : List Tn} (h : shp a = shp b) : W0 a = W0 b := by
  have hl : a.length = b.length := by have := congrArg List.length h; simpa [shp] using this
  unfold W0
  refine List.ext_getElem (by simp [hl]) fun i h1 h2 => ?_
  have hi : i < a.length := by simpa using h1
  have e : a[i].L = b[i].L := by
    have := congrArg (fun l => l[i]?) h
    simp only [shp, List.getElem?_map, List.getElem?_eq_getElem hi, List.getElem?_eq_getElem (show i < b.length by omega), Option.map_some, Option.some.injEq, Prod.mk.injEq] at this
    exact this.1
  simp [e]
theorem len_shp {a b : List Tn} (h : shp a = shp b) : a.length = b.length := by have := congrArg List.length h; simpa [shp] using this
theorem slA_len (l : List Int) : ∀ S, (slA l S).length = S.length := by
  unfold slA
  induction l with
  | nil => intro S; rfl
  | cons x l ih => intro S; simp only [List.foldl_cons]; rw [ih]; simp [slS]
theorem closF_op {n : Nw} {x : Int} (h : x ∈ closF n) : x ∉ n.op := fun hx => by
  obtain ⟨j, a, ha, e⟩ := colF_mem h
  split at e
  · cases e
  · rename_i hc
    cases e
    exact hc (List.any_eq_true.2 ⟨x, hx, by simp⟩)
theorem slG_at {n : Nw} : ∀ {l pre : List Int}, slG n pre l = true → ∀ (i : Nat) (h : i < l.length), l[i] ∈ closF n ∧ l[i] ∉ pre ++ l.take i
  | [], _, _, i, h => by simp at h
  | y :: l, pre, hg, 0, h => by
    simp only [slG, Bool.and_eq_true] at hg
    obtain ⟨z, hz, e⟩ := List.any_eq_true.1 hg.1.1
    have e : y = z := by simpa using e
    refine ⟨by simpa [e] using hz, ?_⟩
    have h2 := hg.1.2
    simp only [Bool.not_eq_true', List.any_eq_false] at h2
    simp only [List.take_zero, List.append_nil, List.getElem_cons_zero]
    intro hm
    exact h2 y hm (by simp)
  | y :: l, pre, hg, i + 1, h => by
    simp only [slG, Bool.and_eq_true] at hg
    have := slG_at hg.2 i (by simpa using h)
    simpa [List.append_assoc] using this
/-- impl.sliceOf: the labels, one by one -/
theorem c_isliceOf_0 {H0 : AH} {n : Nw} {v zs : Sl} {l : List Int} (hv : IS H0 v l) (hz : IS H0 zs (List.replicate l.length 0)) (hl : l.length ≤ 4) (hg : slG n [] l = true) (hn : netB n = true) :
    ∀ (k i : Nat) (H : AH) (s u : Sl) (m : Nw), i + k = l.length → Go.Abs.Le H0 H → NS H s u m → netB m = true → m.r = n.r → m.op = n.op → shp m.ts = slA (l.take i) (shp n.ts) → (∀ y, y ∉ l.take i → dimF m.ts y = dimF n.ts y) →
      ∃ s' u' m' H', R (.loop F.isliceOf 0) [ssc zs, ssc v, isc (l.length : Int), isc (i : Int), npv m.r s u] H = some ⟨2, [npv n.r s' u'], H'⟩ ∧ Go.Abs.Le H H' ∧ NS H' s' u' m' ∧ netB m' = true ∧ m'.r = n.r ∧ m'.op = n.op ∧ shp m'.ts = slA l (shp n.ts)
  | 0, i, H, s, u, m, hi, hle, hN, hm, hr, ho, hs, hd => by
    obtain rfl : i = l.length := by omega
    rw [List.take_length] at hs
    exact ⟨s, u, m, H, by rw [R_eq, e_isliceOf_0, lt_self, hr]; rfl, Go.Abs.Le.refl _, hN, hm, hr, ho, hs⟩
  | k + 1, i, H, s, u, m, hi, hle, hN, hm, hr, ho, hs, hd => by
    have hlt : i < l.length := by omega
    obtain ⟨hc, hni⟩ := slG_at hg i hlt
    rw [List.nil_append] at hni
    have hlab := labsF_mem (closF_mem hc)
    have hop : l[i] ∉ m.op := by rw [ho]; exact closF_op hc
    have hdi := hd l[i] hni
    obtain ⟨s1, u1, m1, H1, e1, l1, N1, S1⟩ := c_iSliceNetwork hN hm hlab.1 hlab.2.1 (by rw [hdi]; omega) hop
    have hm1 := net_slice S1 hm hop
    obtain ⟨s2, u2, m2, H2, e2, l2, N2, q1, q2, q3, q4⟩ := c_isliceOf_0 hv hz hl hg hn k (i + 1) H1 s1 u1 m1 (by omega) (hle.trans l1) N1 hm1 (S1.r.trans hr) (S1.op.trans ho)
      (by
        rw [S1.ts.shp, hs, take_snoc' hlt]
        unfold slA
        rw [List.foldl_append]; rfl)
      (fun y hy => by
        rw [take_snoc' hlt] at hy
        have h1 : y ∉ l.take i := fun e => hy (List.mem_append.2 (.inl e))
        have h2 : y ≠ l[i] := fun e => hy (List.mem_append.2 (.inr (by simp [e])))
        rw [S1.ts.dim (net_mem hm) h2, hd y h1])
    refine ⟨s2, u2, m2, H2, ?_, l1.trans l2, N2, q1, q2, q3, q4⟩
    have hz0 : (List.replicate l.length (0 : Int))[i]'(by simpa using hlt) = 0 := by simp
    rw [R_eq, e_isliceOf_0, lt_true hlt, w1 hlt (by omega), cond_true, (hv.le hle).ldk hlt, (hz.le hle).ldk (by simpa using hlt), hz0, e1]
    simp only [Option.bind_some, t_iiiss_b]
    have e2 : R (.loop F.isliceOf 0) [ssc zs, ssc v, isc (l.length : Int), isc ((i + 1 : Nat) : Int), npv m1.r s1 u1] H1 = _ := e2
    rw [S1.r] at e2
    exact e2
/-- impl.sliceOf, at the first slice -/
theorem c_isliceOf {H : AH} {s u v : Sl} {n : Nw} {l : List Int} (h : NS H s u n) (hn : netB n = true) (hv : IS H v l) (hl : l.length ≤ 4) (hg : slG n [] l = true) :
    ∃ s' u' m' H', R (.fn F.isliceOf) [npv n.r s u, ssc v, isc 0] H = some ⟨1, [npv n.r s' u'], H'⟩ ∧ Go.Abs.Le H H' ∧ NS H' s' u' m' ∧ netB m' = true ∧ m'.r = n.r ∧ m'.op = n.op ∧ shp m'.ts = slA l (shp n.ts) := by
  obtain ⟨D, e4, hD, hd⟩ := c_dims h hn
  have hx : ∀ x ∈ l, 0 ≤ x ∧ x ≤ 99 := fun x hx => by have := labsF_mem (closF_mem (slG_mem hg x hx)); omega
  obtain ⟨a, b, H1, e5, l1, o5, o6⟩ := c_iaxesOf hD hv (by omega) hx
  have hmap : (l.map fun x => D.getD x.toNat 0) = l.map (dimF n.ts) := List.map_congr_left fun x hxm => hd x (hx x hxm).1 (hx x hxm).2
  rw [hmap] at o6
  have hok := slice_dims hn hl hg
  have e7 := c_iindexIn o6 hok.1 hok.ge
  have hll : (l.map (dimF n.ts)).length = l.length := by simp
  rw [hll] at e7
  have l2 := Go.Abs.Le.app H1 [⟨ics (List.replicate l.length 0), .rw, 1⟩]
  have hz : IS (H1 ++ [⟨ics (List.replicate l.length 0), .rw, 1⟩]) ⟨H1.length, 0, l.length, l.length, true⟩ (List.replicate l.length 0) := by
    have := IS.of_blk (H := H1 ++ [⟨ics (List.replicate l.length 0), .rw, 1⟩]) (l := List.replicate l.length (0 : Int)) (c := l.length) (x := true) app_get (by simp)
    rw [List.length_replicate] at this
    exact this
  obtain ⟨s', u', m', H2, e8, l3, N2, q1, q2, q3, q4⟩ := c_isliceOf_0 (hv.le (l1.trans l2)) hz hl hg hn l.length 0 _ s u n (by omega) (Go.Abs.Le.refl _) (h.le (l1.trans l2)) hn rfl rfl rfl (fun y _ => rfl)
  refine ⟨s', u', m', H2, ?_, (l1.trans l2).trans l3, N2, q1, q2, q3, q4⟩
  have e8 : R (.loop F.isliceOf 0) [ssc ⟨H1.length, 0, l.length, l.length, true⟩, ssc v, isc (l.length : Int), isc 0, npv n.r s u] (H1 ++ [⟨ics (List.replicate l.length 0), .rw, 1⟩]) = _ := e8
  rw [R_eq, e_isliceOf, e4]
  simp only [Option.bind_some]
  rw [t_dims hD, dims_take hD, e5]
  simp only [Option.bind_some, o_sss]
  rw [e7]
  simp only [Option.bind_some, one_sl]
  rw [hv.n, e8]
  rfl
theorem sliceF_good {n : Nw} {l : List Int} (h : sliceF n l ≠ -1) : netB n = true ∧ l.length ≤ 4 ∧ slG n [] l = true ∧ sliceF n l = prd (l.map (dimF n.ts)) := by
  unfold sliceF at h ⊢
  split at h
  · rename_i hc
    simp only [Bool.and_eq_true, decide_eq_true_eq] at hc
    refine ⟨hc.1.1, hc.1.2, hc.2, ?_⟩
    rw [if_pos (by simp [hc.1.1, hc.1.2, hc.2])]
  · exact absurd rfl h
theorem ord_shp {n m : Nw} {ps : List Sp} (h : ordB n ps = true) (hm : netB m = true) (hl : m.ts.length = n.ts.length) : ordB m ps = true := by
  obtain ⟨h1, h2, h3⟩ := ordB_at h
  unfold ordB
  rw [hm, hl, h3, decide_eq_true h2]; rfl
/-- The network that is told by shapes alone. -/
def shN (n : Nw) (l : List Int) : Nw := ⟨n.r, (slA l (shp n.ts)).map (fun p => ⟨p.1, p.2, []⟩), n.op⟩
theorem shN_shp (n : Nw) (l : List Int) : shp (shN n l).ts = slA l (shp n.ts) := by
  unfold shN
  show ((slA l (shp n.ts)).map (fun p => (⟨p.1, p.2, []⟩ : Tn))).map (fun t => (t.L, t.D)) = slA l (shp n.ts)
  rw [List.map_map]
  exact (List.map_congr_left fun p _ => rfl).trans (List.map_id _)
theorem peak_shp {a b : Nw} (ho : a.op = b.op) (hs : shp a.ts = shp b.ts) (ps : List Sp) : peakN a ps = peakN b ps ∧ costN a ps = costN b ps := by
  unfold peakN costN
  rw [ho, dim_shp hs, W0_shp hs, len_shp hs]
  exact ⟨rfl, rfl⟩
/-- impl.SlicedPeak -/
theorem c_iSlicedPeak {H : AH} {s u sp v : Sl} {n : Nw} {ps : List Sp} {l : List Int} (h : NS H s u n) (hp : S2 H sp ps) (hv : IS H v l) (hord : ordB n ps = true) (hc : sliceF n l ≠ -1) :
    ∃ H', R (.fn F.iSlicedPeak) [npv n.r s u, ssc sp, ssc v] H = some ⟨1, [isc (peakN (shN n l) ps)], H'⟩ ∧ Go.Abs.Le H H' := by
  obtain ⟨hn, hl, hg, _⟩ := sliceF_good hc
  obtain ⟨b1, b2, b3⟩ := netB_small hn
  obtain ⟨H1, e1, l1⟩ := c_iOrderOk h (by omega) hp (by omega)
  rw [hord] at e1
  obtain ⟨H2, e2, l2⟩ := c_iSliceCount (h.le l1) (by omega) (hv.le l1)
  have l12 := l1.trans l2
  obtain ⟨s', u', m', H3, e3, l3, N3, q1, q2, q3, q4⟩ := c_isliceOf (h.le l12) hn (hv.le l12) hl hg
  have l13 := l12.trans l3
  have hml : m'.ts.length = n.ts.length := by
    have := congrArg List.length q4
    rw [slA_len] at this
    simpa [shp] using this
  obtain ⟨H4, e4, l4⟩ := c_iOrderPeak N3 (hp.le l13) (ord_shp hord q1 hml)
  refine ⟨H4, ?_, l13.trans l4⟩
  have hb1 : (sliceF n l == -1) = false := by simp [hc]
  rw [R_eq, e_iSlicedPeak, e1]
  simp only [Option.bind_some, one_bool, Bool.not_true, cond_false]
  rw [e2]
  simp only [Option.bind_some, one_int, hb1, cond_false]
  rw [e3]
  simp only [Option.bind_some, o_iiiss]
  rw [q2] at e4
  rw [e4]
  simp only [Option.bind_some, one_int]
  rw [(peak_shp (a := m') (b := shN n l) q3 (q4.trans (shN_shp n l).symm) ps).1]
end Go.Abs
/- Plans: a plan is made (impl). -/
namespace Go.Abs
set_option linter.all false
set_option maxRecDepth 10000

def scs (ps : List Sp) : List Sc := (ps.map fun g => [Sc.int .i64 g.a, Sc.int .i64 g.b]).flatten
theorem scs_len : ∀ ps : List Sp, (scs ps).length = ps.length * 2
  | [] => rfl
  | g :: ps => by
    have := scs_len ps
    simp only [scs, List.map_cons, List.flatten_cons, List.length_append, List.length_cons, List.length_nil] at this ⊢
    omega
theorem scs_get : ∀ (ps : List Sp) (i : Nat) (g : Sp), ps[i]? = some g → (scs ps)[i * 2]? = some (.int .i64 g.a) ∧ (scs ps)[i * 2 + 1]? = some (.int .i64 g.b)
  | [], i, g, h => by simp at h
  | x :: ps, 0, g, h => by simp at h; subst h; simp [scs]
  | x :: ps, i + 1, g, h => by
    have := scs_get ps i g (by simpa using h)
    have e : (i + 1) * 2 = i * 2 + 2 := by omega
    have e2 : scs (x :: ps) = [Sc.int .i64 x.a, Sc.int .i64 x.b] ++ scs ps := rfl
    have e3 : i * 2 + 2 + 1 = (i * 2 + 1) + 2 := by omega
    rw [e2, e, e3]
    refine ⟨?_, ?_⟩
    · rw [List.getElem?_append_right (by simp)]; simpa using this.1
    · rw [List.getElem?_append_right (by simp)]; simpa using this.2
theorem S2.rng {H : AH} {s : Sl} {ps : List Sp} (h : S2 H s ps) : rng H s.b s.o (s.n * 2) = some (scs ps) := by
  unfold Go.Abs.rng
  obtain ⟨h1, h2, h3⟩ := h
  by_cases he : ps = []
  · subst he
    rw [if_pos (by rw [h1]; rfl)]; rfl
  · rcases h3 with e | ⟨cs, hc, hg⟩
    · exact absurd e he
    · have hl : 0 < ps.length := List.length_pos_iff.2 he
      rw [if_neg (by omega), hc]
      simp only [Option.bind_some]
      have hlast := (hg (ps.length - 1) _ (List.getElem?_eq_getElem (show ps.length - 1 < ps.length by omega))).2
      have hb := (List.getElem?_eq_some_iff.1 hlast).1
      rw [if_pos (by rw [h1]; omega)]
      congr 1
      refine List.ext_getElem? fun i => ?_
      rw [List.getElem?_take, List.getElem?_drop]
      by_cases hi : i < s.n * 2
      · rw [if_pos hi]
        have hq : i / 2 < ps.length := by omega
        have g1 := hg (i / 2) _ (List.getElem?_eq_getElem hq)
        have g2 := scs_get ps (i / 2) _ (List.getElem?_eq_getElem hq)
        rcases Nat.mod_two_eq_zero_or_one i with hm | hm
        · have e : i = i / 2 * 2 := by omega
          have e' : s.o + i = s.o + i / 2 * 2 := by omega
          rw [e', g1.1]
          conv => rhs; rw [e]
          exact g2.1.symm
        · have e : i = i / 2 * 2 + 1 := by omega
          have e' : s.o + i = s.o + i / 2 * 2 + 1 := by omega
          rw [e', g1.2]
          conv => rhs; rw [e]
          exact g2.2.symm
      · rw [if_neg hi, List.getElem?_eq_none (by rw [scs_len]; omega)]
/-- A row of steps of its own. -/
structure SOwn (n0 : Nat) (H : AH) (s : Sl) (ps : List Sp) : Prop where
  o : s.o = 0
  n : s.n = ps.length
  c : s.c = ps.length
  blk : (ps = [] ∧ s.x = true) ∨ (ps ≠ [] ∧ n0 ≤ s.b ∧ H[s.b]? = some ⟨scs ps, .rw, 2⟩)
theorem SOwn.s2 {n0 : Nat} {H : AH} {s : Sl} {ps : List Sp} (h : SOwn n0 H s ps) : S2 H s ps := by
  refine ⟨h.n, by rw [h.n, h.c]; exact Nat.le_refl _, ?_⟩
  rcases h.blk with ⟨e, _⟩ | ⟨_, _, e⟩
  · exact .inl e
  · exact .inr ⟨scs ps, by unfold rdB; rw [e]; rfl, fun i g hi => by rw [h.o, Nat.zero_add]; exact scs_get ps i g hi⟩
theorem SOwn.le {n0 : Nat} {H H' : AH} {s : Sl} {ps : List Sp} (h : SOwn n0 H s ps) (hl : Go.Abs.Le H H') : SOwn n0 H' s ps :=
  ⟨h.o, h.n, h.c, h.blk.imp id fun ⟨a, b, c⟩ => ⟨a, b, by rw [hl.get _ (List.getElem?_eq_some_iff.1 c).1]; exact c⟩⟩
/-- impl.copySteps -/
theorem c_icopySteps {H : AH} {s : Sl} {ps : List Sp} (h : S2 H s ps) (hl : ps.length ≤ 1048576) :
    ∃ s' H', R (.fn F.icopySteps) [ssc s] H = some ⟨1, [ssc s'], H'⟩ ∧ Go.Abs.Le H H' ∧ SOwn H.length H' s' ps := by
  rw [R_eq, e_icopySteps, h.rng]
  simp only [Option.bind_some]
  rw [h.1]
  by_cases he : ps = []
  · subst he
    refine ⟨⟨0, 0, 0, 0, true⟩, H, ?_, Go.Abs.Le.refl _, ⟨rfl, rfl, rfl, .inl ⟨rfl, rfl⟩⟩⟩
    unfold appB
    simp [scs, putR]
  · have hpos : 0 < ps.length := List.length_pos_iff.2 he
    refine ⟨⟨H.length, 0, ps.length, ps.length, false⟩, H ++ [⟨scs ps, .rw, 2⟩], ?_, Go.Abs.Le.app _ _, ⟨rfl, rfl, rfl, .inr ⟨he, Nat.le_refl _, by simp⟩⟩⟩
    have hm : (0 + ps.length) * 16 ≤ most := by unfold most; omega
    unfold appB
    rw [if_neg (by simp; omega), if_pos ⟨by omega, by omega, hm⟩]
    have hr : rng H 0 0 (0 * 2) = some [] := by unfold Go.Abs.rng; simp
    simp [hr]
def planG (n : Nw) (ps : List Sp) (l : List Int) : Bool := ordB n ps && !(sliceF n l == -1)
def planP (n : Nw) (ps : List Sp) (l : List Int) : Int := peakN (shN n l) ps
def planC (n : Nw) (ps : List Sp) (l : List Int) : Int := min (sliceF n l * costN (shN n l) ps) 1000000000
theorem sum_ge : ∀ {l : List Int}, (∀ c ∈ l, 1 ≤ c) → 0 ≤ l.sum
  | [], _ => by simp
  | x :: l, h => by
    have h1 := h x List.mem_cons_self
    have h2 := sum_ge (l := l) fun c hc => h c (List.mem_cons_of_mem _ hc)
    rw [List.sum_cons]; omega
theorem costN_range {n : Nw} (hn : netB n = true) (ps : List Sp) : 0 ≤ costN n ps ∧ costN n ps ≤ 1000000000 := by
  have := sum_ge fun c hc => (costs_range n.op (dimF n.ts) ps (W0 n.ts) n.ts.length (W0_ok hn) c hc).1
  unfold costN costW; omega
theorem slice_range {n : Nw} {l : List Int} (h : sliceF n l ≠ -1) : 1 ≤ sliceF n l ∧ sliceF n l ≤ 4096 := by
  obtain ⟨hn, hl, hg, e⟩ := sliceF_good h
  have hok := slice_dims hn hl hg
  rw [e]
  exact ⟨prd_pos hok.ge, hok.2.2⟩
@[reducible] def ppv (so sl : Sl) (p c : Int) : PV := .agg [.sl so, .sl sl, .int .i64 p, .int .i64 c]
/-- impl.MakePlan -/
theorem c_iMakePlan {H : AH} {s u sp v : Sl} {n : Nw} {ps : List Sp} {l : List Int} (h : NS H s u n) (ho : n.op.length ≤ 1048576) (hts : n.ts.length ≤ 4611686018427387904) (hp : S2 H sp ps) (hv : IS H v l) :
    (planG n ps l = true ∧ ∃ so sl H', R (.fn F.iMakePlan) [npv n.r s u, ssc sp, ssc v] H = some ⟨1, [ppv so sl (planP n ps l) (planC n ps l), bsc true], H'⟩ ∧ Go.Abs.Le H H' ∧ SOwn H.length H' so ps ∧ Own H.length H' sl l) ∨
    (planG n ps l = false ∧ ∃ H', R (.fn F.iMakePlan) [npv n.r s u, ssc sp, ssc v] H = some ⟨1, [ppv ⟨0, 0, 0, 0, true⟩ ⟨0, 0, 0, 0, true⟩ 0 0, bsc false], H'⟩ ∧ Go.Abs.Le H H') := by
  obtain ⟨H1, e1, l1⟩ := c_iSliceCount h ho hv
  obtain ⟨H2, e2, l2⟩ := c_iOrderOk (h.le l1) ho (hp.le l1) hts
  have l12 := l1.trans l2
  cases hord : ordB n ps with
  | false =>
    rw [hord] at e2
    refine .inr ⟨by unfold planG; rw [hord]; rfl, H2, ?_, l12⟩
    rw [R_eq, e_iMakePlan, e1]
    simp only [Option.bind_some, one_int]
    rw [e2]
    simp only [Option.bind_some, one_bool, Bool.not_false, cond_true]
  | true =>
    rw [hord] at e2
    by_cases hc : sliceF n l = -1
    · refine .inr ⟨by unfold planG; rw [hc]; simp, H2, ?_, l12⟩
      rw [hc] at e1
      rw [R_eq, e_iMakePlan, e1]
      simp only [Option.bind_some, one_int]
      rw [e2]
      simp only [Option.bind_some, one_bool, Bool.not_true, cond_false]
      rfl
    · have hb1 : (sliceF n l == -1) = false := by simp [hc]
      obtain ⟨hn, hl, hg, _⟩ := sliceF_good hc
      obtain ⟨_, hpl, _⟩ := ordB_at hord
      obtain ⟨b1, b2, b3⟩ := netB_small hn
      obtain ⟨s', u', m', H3, e3, l3, N3, q1, q2, q3, q4⟩ := c_isliceOf (h.le l12) hn (hv.le l12) hl hg
      have l13 := l12.trans l3
      have hml : m'.ts.length = n.ts.length := by
        have := congrArg List.length q4
        rw [slA_len] at this
        simpa [shp] using this
      have hsh := peak_shp (a := m') (b := shN n l) q3 (q4.trans (shN_shp n l).symm) ps
      obtain ⟨H4, e4, l4⟩ := c_iOrderCost N3 (hp.le l13) (ord_shp hord q1 hml)
      have l14 := l13.trans l4
      obtain ⟨so, H5, e5, l5, o5⟩ := c_icopySteps (hp.le l14) (by omega)
      have l15 := l14.trans l5
      obtain ⟨sl, H6, e6, l6, o6⟩ := c_icopyInts (hv.le l15) (by omega)
      have l16 := l15.trans l6
      obtain ⟨H7, e7, l7⟩ := c_iSlicedPeak (h.le l16) (hp.le l16) (hv.le l16) hord hc
      have hcr := costN_range q1 ps
      rw [hsh.2] at hcr e4
      have hsr := slice_range hc
      have hmul0 : 0 ≤ sliceF n l * costN (shN n l) ps := Int.mul_nonneg (by omega) hcr.1
      have hmul1 : sliceF n l * costN (shN n l) ps ≤ 4096 * 1000000000 := Int.mul_le_mul hsr.2 hcr.2 hcr.1 (by omega)
      have hw : IntKind.wrap .i64 (sliceF n l * costN (shN n l) ps) = sliceF n l * costN (shN n l) ps := by rw [wrap_id] <;> omega
      have hif : (if (1000000000 : Int) < sliceF n l * costN (shN n l) ps then 1000000000 else sliceF n l * costN (shN n l) ps) = planC n ps l := by
        unfold planC; split <;> omega
      refine .inl ⟨by unfold planG; rw [hord, hb1]; rfl, so, sl, H7, ?_, l16.trans l7, ?_, ?_⟩
      · rw [R_eq, e_iMakePlan, e1]
        simp only [Option.bind_some, one_int]
        rw [e2]
        simp only [Option.bind_some, one_bool, Bool.not_true, cond_false, hb1]
        rw [e3]
        simp only [Option.bind_some, o_iiiss]
        rw [q2] at e4
        rw [e4]
        simp only [Option.bind_some, one_int]
        rw [e5]
        simp only [Option.bind_some, one_sl]
        rw [e6]
        simp only [Option.bind_some, one_sl]
        rw [e7]
        simp only [Option.bind_some, one_int]
        rw [hw, hif]
        rfl
      · have := o5.le (l6.trans l7)
        exact ⟨this.o, this.n, this.c, this.blk.imp id fun ⟨a, b, c⟩ => ⟨a, by have := l14.len; omega, c⟩⟩
      · exact (o6.le l7).low l15.len
end Go.Abs
/- The law's own helpers for plans. -/
namespace Go.Abs
set_option linter.all false
set_option maxRecDepth 10000

theorem plan_eq {H : AH} {sp v sp' v' : Sl} {ps : List Sp} {l : List Int} {pk ct : Int} (h1 : S2 H sp ps) (h2 : IS H v l) (k1 : S2 H sp' ps) (k2 : IS H v' l) (m1 : ps.length ≤ 1048576) (m2 : l.length ≤ 1048576) :
    R (.fn F.weqPlan) [ppv sp v pk ct, ppv sp' v' pk ct] H = some ⟨1, [bsc true], H⟩ := by
  rw [R_eq, e_weqPlan, steps_eq h1 k1 m1]
  simp only [Option.bind_some, one_bool, Bool.not_true, cond_false]
  rw [c52_eq h2 k2 m2]
  simp only [Option.bind_some, one_bool, Bool.not_true, cond_false, ne_i]
end Go.Abs
/- Marks: copies of arguments lie in blocks of their own; they are marked there. -/
namespace Go.Abs
set_option linter.all false
set_option maxRecDepth 10000

theorem WS.setne {z n0 n1 : Nat} {H : AH} {s : Sl} (h : WS z n0 n1 H s) {q : Nat} {k : Blk} (hq : s.b ≠ q) : WS z n0 n1 (H.set q k) s :=
  ⟨h.o, h.blk.imp id fun ⟨a, b, cs, c, d⟩ => ⟨a, b, cs, by rw [List.getElem?_set_ne (Ne.symm hq)]; exact c, d⟩⟩
theorem w_toIntS {H : AH} {s : Sl} {l : List Int} (h : IS H s l) (hl : l.length ≤ 1048576) :
    ∃ s' H', R (.fn F.wtoIntS) [ssc s] H = some ⟨1, [ssc s'], H'⟩ ∧ Go.Abs.Le H H' ∧ IS H' s' l ∧ WS 1 H.length H'.length H' s' ∧ s'.n = l.length ∧ H.length ≤ s'.b := by
  obtain ⟨H1, e1, l1, n1, b1⟩ := c_wtoIntS h hl
  exact ⟨_, H1, e1, l1, IS.of_blk b1 (Nat.le_refl _), ⟨rfl, .inr ⟨Nat.le_refl _, by show H.length < H1.length; omega, ics l, b1, by simp [ics]⟩⟩, rfl, Nat.le_refl _⟩
theorem w_toStepS {H : AH} {s : Sl} {ps : List Sp} (h : S2 H s ps) (hl : ps.length ≤ 1048576) :
    ∃ s' H', R (.fn F.wtoStepS) [ssc s] H = some ⟨1, [ssc s'], H'⟩ ∧ Go.Abs.Le H H' ∧ S2 H' s' ps ∧ WS 2 H.length H'.length H' s' ∧ s'.n = ps.length := by
  have loop : ∀ (k i : Nat), i + k = ps.length → ∀ (Hc : AH) (cs : List Sc), Go.Abs.Le H Hc → Hc[H.length]? = some ⟨cs, .rw, 2⟩ → cs.length = ps.length * 2 →
      (∀ (j : Nat) g, j < i → ps[j]? = some g → cs[j * 2]? = some (.int .i64 g.a) ∧ cs[j * 2 + 1]? = some (.int .i64 g.b)) →
      ∃ H' cs', R (.loop F.wtoStepS 0) [ssc s, ssc ⟨H.length, 0, ps.length, ps.length, true⟩, isc (i : Int)] Hc = some ⟨2, [], H'⟩ ∧ Go.Abs.Le H H' ∧ H'[H.length]? = some ⟨cs', .rw, 2⟩ ∧ cs'.length = ps.length * 2 ∧
        ∀ (j : Nat) g, ps[j]? = some g → cs'[j * 2]? = some (.int .i64 g.a) ∧ cs'[j * 2 + 1]? = some (.int .i64 g.b) := by
    intro k
    induction k with
    | zero =>
      intro i hi Hc cs hle hb hcl hcs
      obtain rfl : i = ps.length := by omega
      exact ⟨Hc, cs, by rw [R_eq, e_wtoStepS_0, h.1, lt_self]; rfl, hle, hb, hcl, fun j g hj => hcs j g (List.getElem?_eq_some_iff.1 hj).1 hj⟩
    | succ k ih =>
      intro i hi Hc cs hle hb hcl hcs
      have hlt : i < ps.length := by omega
      have ht : R (.fn F.wtoStep) [.agg [.int .i64 ps[i].a, .int .i64 ps[i].b]] Hc = some ⟨1, [.agg [.int .i64 ps[i].a, .int .i64 ps[i].b]], Hc⟩ := by rw [R_eq, e_wtoStep]
      rw [R_eq, e_wtoStepS_0, h.1, lt_true hlt, w1 hlt (by omega), cond_true, (h.le hle).ld hlt, ht]
      simp only [Option.bind_some, o_ii]
      rw [ixA_nat (by exact hlt)]
      simp only [Option.bind_some, Nat.zero_add]
      rw [putR_all hb (by simp; omega)]
      simp only [Option.bind_some]
      refine ih (i + 1) (by omega) _ _ (set_le hle (Nat.le_refl _)) (set_get hb) (by rw [setAll_length]; exact hcl) (fun j g hj hjl => ?_)
      rw [setAll_get, setAll_get]
      by_cases e : j = i
      · subst e
        rw [List.getElem?_eq_getElem hlt] at hjl
        cases hjl
        rw [if_pos ⟨by omega, by simp, by omega⟩, if_pos ⟨by omega, by simp, by omega⟩]
        simp
      · have hji : j < i := by omega
        rw [if_neg (by omega), if_neg (by omega)]
        exact hcs j g hji hjl
  have hm := mk_any (H := H) (z := 2) (y := 16) (vs := [.int .i64 0, .int .i64 0]) hl (by omega) (by omega) (by omega)
  obtain ⟨H', cs, e, l1, b1, cl, g⟩ := loop ps.length 0 (by omega) (H ++ [⟨(List.replicate ps.length [.int .i64 0, .int .i64 0]).flatten, .rw, 2⟩]) _ (Go.Abs.Le.app _ _) app_get (by simp) (fun j l hj => by omega)
  have e : R (.loop F.wtoStepS 0) [ssc s, ssc ⟨H.length, 0, ps.length, ps.length, true⟩, isc 0] (H ++ [⟨(List.replicate ps.length [.int .i64 0, .int .i64 0]).flatten, .rw, 2⟩]) = some ⟨2, [], H'⟩ := e
  refine ⟨⟨H.length, 0, ps.length, ps.length, true⟩, H', ?_, l1, ⟨rfl, Nat.le_refl _, .inr ⟨cs, by unfold rdB; rw [b1]; rfl, fun i x hi => by rw [Nat.zero_add]; exact g i x hi⟩⟩, ⟨rfl, .inr ⟨Nat.le_refl _, (List.getElem?_eq_some_iff.1 b1).1, cs, b1, cl⟩⟩, rfl⟩
  rw [R_eq, e_wtoStepS, h.1]
  rw [show mkB H 2 16 [Sc.int .i64 0, .int .i64 0] (ps.length : Int) (ps.length : Int) = _ from hm]
  simp only [Option.bind_some]
  rw [e]; rfl
/-- A tensor's rows in blocks of their own. -/
structure W3 (n0 n1 : Nat) (H : AH) (a b c : Sl) (t : Tn) : Prop where
  wa : WS 1 n0 n1 H a
  wb : WS 1 n0 n1 H b
  wc : WS 1 n0 n1 H c
  na : a.n = t.L.length
  nb : b.n = t.D.length
  nc : c.n = t.X.length
theorem W3.she {n0 n1 : Nat} {H H' : AH} {a b c : Sl} {t : Tn} (h : W3 n0 n1 H a b c t) (k : ShE n0 n1 H H') : W3 n0 n1 H' a b c t := ⟨h.wa.she k, h.wb.she k, h.wc.she k, h.na, h.nb, h.nc⟩
theorem W3.ext {n0 n1 n2 : Nat} {H H' : AH} {a b c : Sl} {t : Tn} (h : W3 n0 n1 H a b c t) (k : Go.Abs.Le H H') (hn : n1 ≤ n2) : W3 n0 n2 H' a b c t := ⟨h.wa.ext k hn, h.wb.ext k hn, h.wc.ext k hn, h.na, h.nb, h.nc⟩
theorem w_toTensor {H : AH} {a b c : Sl} {t : Tn} (h : TS H a b c t) (hs : TnSmall t) :
    ∃ a' b' c' H', R (.fn F.wtoTensor) [tpv a b c] H = some ⟨1, [tpv a' b' c'], H'⟩ ∧ Go.Abs.Le H H' ∧ TS H' a' b' c' t ∧ W3 H.length H'.length H' a' b' c' t ∧ H.length ≤ a'.b ∧ H.length ≤ b'.b ∧ H.length ≤ c'.b := by
  obtain ⟨a', H1, e1, l1, i1, w1, n1, q1⟩ := w_toIntS h.L hs.1
  obtain ⟨b', H2, e2, l2, i2, w2, n2, q2⟩ := w_toIntS (h.D.le l1) hs.2.1
  obtain ⟨c', H3, e3, l3, i3, w3, n3, q3⟩ := w_toIntS (h.X.le (l1.trans l2)) hs.2.2
  have a1 := l1.len; have a2 := l2.len; have a3 := l3.len
  refine ⟨a', b', c', H3, ?_, (l1.trans l2).trans l3, ⟨i1.le (l2.trans l3), i2.le l3, i3⟩, ⟨w1.ext (l2.trans l3) (by omega), (w2.ext l3 (by omega)).low (by omega), w3.low (by omega), n1, n2, n3⟩, q1, by omega, by omega⟩
  rw [R_eq, e_wtoTensor, e1]
  simp only [Option.bind_some, one_sl]
  rw [e2]
  simp only [Option.bind_some, one_sl]
  rw [e3]
  simp only [Option.bind_some, one_sl]
/-- A row of tensors, their rows in blocks of their own. -/
structure WT (n0 n1 : Nat) (H : AH) (s : Sl) (ts : List Tn) : Prop where
  o : s.o = 0
  n : s.n = ts.length
  blk : ∃ cs : List Sc, H[s.b]? = some ⟨cs, .rw, 3⟩ ∧ ∀ (j : Nat) t, ts[j]? = some t → ∃ a b c, cs[j * 3]? = some (.sl a) ∧ cs[j * 3 + 1]? = some (.sl b) ∧ cs[j * 3 + 1 + 1]? = some (.sl c) ∧ W3 n0 n1 H a b c t
theorem WT.she {n0 n1 : Nat} {H H' : AH} {s : Sl} {ts : List Tn} (h : WT n0 n1 H s ts) (k : ShE n0 n1 H H') : WT n0 n1 H' s ts := by
  obtain ⟨ho, hn, cs, hb, hg⟩ := h
  obtain ⟨cs', e1, e2, e3⟩ := k.inn _ cs 3 hb
  refine ⟨ho, hn, cs', e1, fun j t hj => ?_⟩
  rw [e3 rfl]
  obtain ⟨a, b, c, g1, g2, g3, g4⟩ := hg j t hj
  exact ⟨a, b, c, g1, g2, g3, g4.she k⟩
theorem WT.ext {n0 n1 n2 : Nat} {H H' : AH} {s : Sl} {ts : List Tn} (h : WT n0 n1 H s ts) (k : Go.Abs.Le H H') (hn : n1 ≤ n2) : WT n0 n2 H' s ts := by
  obtain ⟨ho, hm, cs, hb, hg⟩ := h
  refine ⟨ho, hm, cs, by rw [k.get _ (List.getElem?_eq_some_iff.1 hb).1]; exact hb, fun j t hj => ?_⟩
  obtain ⟨a, b, c, g1, g2, g3, g4⟩ := hg j t hj
  exact ⟨a, b, c, g1, g2, g3, g4.ext k hn⟩
theorem w_toTensorS {H : AH} {s : Sl} {ts : List Tn} (h : T3 H s ts) (hl : ts.length ≤ 1048576) (hs : ∀ t ∈ ts, TnSmall t) :
    ∃ s' H', R (.fn F.wtoTensorS) [ssc s] H = some ⟨1, [ssc s'], H'⟩ ∧ Go.Abs.Le H H' ∧ T3 H' s' ts ∧ WT H.length H'.length H' s' ts := by
  have loop : ∀ (k i : Nat), i + k = ts.length → ∀ (Hc : AH) (cs : List Sc), Go.Abs.Le H Hc → Hc[H.length]? = some ⟨cs, .rw, 3⟩ → cs.length = ts.length * 3 →
      (∀ (j : Nat) t, j < i → ts[j]? = some t → ∃ a b c, cs[j * 3]? = some (.sl a) ∧ cs[j * 3 + 1]? = some (.sl b) ∧ cs[j * 3 + 1 + 1]? = some (.sl c) ∧ TS Hc a b c t ∧ W3 H.length Hc.length Hc a b c t ∧ a.b ≠ H.length ∧ b.b ≠ H.length ∧ c.b ≠ H.length) →
      ∃ H' cs', R (.loop F.wtoTensorS 0) [ssc s, ssc ⟨H.length, 0, ts.length, ts.length, true⟩, isc (i : Int)] Hc = some ⟨2, [], H'⟩ ∧ Go.Abs.Le H H' ∧ H'[H.length]? = some ⟨cs', .rw, 3⟩ ∧
        ∀ (j : Nat) t, ts[j]? = some t → ∃ a b c, cs'[j * 3]? = some (.sl a) ∧ cs'[j * 3 + 1]? = some (.sl b) ∧ cs'[j * 3 + 1 + 1]? = some (.sl c) ∧ TS H' a b c t ∧ W3 H.length H'.length H' a b c t := by
    intro k
    induction k with
    | zero =>
      intro i hi Hc cs hle hb hcl hcs
      obtain rfl : i = ts.length := by omega
      refine ⟨Hc, cs, by rw [R_eq, e_wtoTensorS_0, h.1, lt_self]; rfl, hle, hb, fun j g hj => ?_⟩
      obtain ⟨a, b, c, q1, q2, q3, q4, q5, _⟩ := hcs j g (List.getElem?_eq_some_iff.1 hj).1 hj
      exact ⟨a, b, c, q1, q2, q3, q4, q5⟩
    | succ k ih =>
      intro i hi Hc cs hle hb hcl hcs
      have hlt : i < ts.length := by omega
      obtain ⟨x, y, z, ht, kt⟩ := (h.le hle).ld hlt
      obtain ⟨a, b, c, H1, e1, l1, t1, w1', p1, p2, p3⟩ := w_toTensor ht (hs _ (List.getElem_mem hlt))
      have hbl : H.length < Hc.length := (List.getElem?_eq_some_iff.1 hb).1
      have hb1 : H1[H.length]? = some ⟨cs, .rw, 3⟩ := by rw [l1.get _ hbl]; exact hb
      rw [R_eq, e_wtoTensorS_0, h.1, lt_true hlt, w1 hlt (by omega), cond_true, kt, e1]
      simp only [Option.bind_some, o_sss]
      rw [ixA_nat (by exact hlt)]
      simp only [Option.bind_some, Nat.zero_add]
      rw [putR_all hb1 (by simp; omega)]
      simp only [Option.bind_some]
      have hwset : ∀ {a b c : Sl} {t : Tn} {m : Nat} {q : Blk}, W3 H.length m H1 a b c t → a.b ≠ H.length → b.b ≠ H.length → c.b ≠ H.length → W3 H.length m (H1.set H.length q) a b c t := fun w g1 g2 g3 => ⟨w.wa.setne g1, w.wb.setne g2, w.wc.setne g3, w.na, w.nb, w.nc⟩
      refine ih (i + 1) (by omega) _ _ (set_le (hle.trans l1) (Nat.le_refl _)) (set_get hb1) (by rw [setAll_length]; exact hcl) (fun j g hj hjl => ?_)
      rw [setAll_get, setAll_get, setAll_get, List.length_set]
      by_cases e : j = i
      · subst e
        rw [List.getElem?_eq_getElem hlt] at hjl
        cases hjl
        rw [if_pos ⟨by omega, by simp, by omega⟩, if_pos ⟨by omega, by simp, by omega⟩, if_pos ⟨by omega, by simp, by omega⟩]
        have hw' : W3 H.length H1.length H1 a b c ts[j] := ⟨w1'.wa.low (by omega), w1'.wb.low (by omega), w1'.wc.low (by omega), w1'.na, w1'.nb, w1'.nc⟩
        refine ⟨a, b, c, by simp, by simp, by rw [show j * 3 + 1 + 1 - j * 3 = 2 by omega]; rfl, t1.set (by omega) (by omega) (by omega), hwset hw' (by omega) (by omega) (by omega), by omega, by omega, by omega⟩
      · have hji : j < i := by omega
        rw [if_neg (by omega), if_neg (by omega), if_neg (by omega)]
        obtain ⟨a, b, c, q1, q2, q3, q4, q4', q5, q6, q7⟩ := hcs j g hji hjl
        exact ⟨a, b, c, q1, q2, q3, (q4.le l1).set q5 q6 q7, hwset (q4'.ext l1 l1.len) q5 q6 q7, q5, q6, q7⟩
  have hm := mk_any (H := H) (z := 3) (y := 72) (vs := [.sl ⟨0, 0, 0, 0, true⟩, .sl ⟨0, 0, 0, 0, true⟩, .sl ⟨0, 0, 0, 0, true⟩]) hl (by omega) (by omega) (by omega)
  obtain ⟨H', cs, e, l1, b1, g⟩ := loop ts.length 0 (by omega) (H ++ [⟨(List.replicate ts.length [.sl ⟨0, 0, 0, 0, true⟩, .sl ⟨0, 0, 0, 0, true⟩, .sl ⟨0, 0, 0, 0, true⟩]).flatten, .rw, 3⟩]) _ (Go.Abs.Le.app _ _) app_get (by simp) (fun j l hj => by omega)
  have e : R (.loop F.wtoTensorS 0) [ssc s, ssc ⟨H.length, 0, ts.length, ts.length, true⟩, isc 0] (H ++ [⟨(List.replicate ts.length [.sl ⟨0, 0, 0, 0, true⟩, .sl ⟨0, 0, 0, 0, true⟩, .sl ⟨0, 0, 0, 0, true⟩]).flatten, .rw, 3⟩]) = some ⟨2, [], H'⟩ := e
  refine ⟨⟨H.length, 0, ts.length, ts.length, true⟩, H', ?_, l1, ⟨rfl, Nat.le_refl _, .inr ⟨cs, by unfold rdB; rw [b1]; rfl, fun i x hi => ?_⟩⟩, ⟨rfl, rfl, cs, b1, fun j t hj => ?_⟩⟩
  · rw [R_eq, e_wtoTensorS, h.1]
    rw [show mkB H 3 72 [Sc.sl ⟨0, 0, 0, 0, true⟩, .sl ⟨0, 0, 0, 0, true⟩, .sl ⟨0, 0, 0, 0, true⟩] (ts.length : Int) (ts.length : Int) = _ from hm]
    simp only [Option.bind_some]
    rw [e]; rfl
  · rw [Nat.zero_add]
    obtain ⟨a, b, c, q1, q2, q3, q4, _⟩ := g i x hi
    exact ⟨a, b, c, q1, q2, q3, q4⟩
  · obtain ⟨a, b, c, q1, q2, q3, _, q5⟩ := g j t hj
    exact ⟨a, b, c, q1, q2, q3, q5⟩
structure WN (n0 n1 : Nat) (H : AH) (s u : Sl) (n : Nw) : Prop where
  ts : WT n0 n1 H s n.ts
  op : WS 1 n0 n1 H u
  no : u.n = n.op.length
/-- laws.toNetwork -/
theorem w_toNetwork {H : AH} {s u : Sl} {n : Nw} (h : NS H s u n) (hs : NwSmall n) :
    ∃ s' u' H', R (.fn F.wtoNetwork) [npv n.r s u] H = some ⟨1, [npv n.r s' u'], H'⟩ ∧ Go.Abs.Le H H' ∧ NS H' s' u' n ∧ WN H.length H'.length H' s' u' n := by
  obtain ⟨s', H1, e1, l1, t1, w1⟩ := w_toTensorS h.ts hs.1 hs.2.2
  obtain ⟨u', H2, e2, l2, i2, w2, n2, _⟩ := w_toIntS (h.op.le l1) hs.2.1
  have a1 := l1.len; have a2 := l2.len
  refine ⟨s', u', H2, ?_, l1.trans l2, ⟨t1.le l2, i2⟩, ⟨w1.ext l2 a2, w2.low (by omega), n2⟩⟩
  rw [R_eq, e_wtoNetwork, c_wtoRing]
  simp only [Option.bind_some, o_iii]
  rw [e1]
  simp only [Option.bind_some, one_sl]
  rw [e2]
  simp only [Option.bind_some, one_sl]
/-- laws.markStepS -/
theorem m_steps {n0 n1 : Nat} {H : AH} {s : Sl} (h : WS 2 n0 n1 H s) (hl : s.n ≤ 1048576) {k : Int} (h0 : 0 ≤ k) (h1 : k ≤ 4611686018427387904) :
    ∃ H', R (.fn F.wmarkStepS) [ssc s, isc k] H = some ⟨1, [isc (k + 2 * s.n)], H'⟩ ∧ ShE n0 n1 H H' := by
  have loop : ∀ (m i : Nat), i + m = s.n → ∀ Hc, ShE n0 n1 H Hc → ∃ H', R (.loop F.wmarkStepS 0) [ssc s, isc (k + 2 * (i : Int)), isc (i : Int)] Hc = some ⟨2, [isc (k + 2 * s.n)], H'⟩ ∧ ShE n0 n1 H H' := by
    intro m
    induction m with
    | zero =>
      intro i hi Hc hE
      obtain rfl : i = s.n := by omega
      exact ⟨Hc, by rw [R_eq, e_wmarkStepS_0, lt_self]; rfl, hE⟩
    | succ m ih =>
      intro i hi Hc hE
      have hlt : i < s.n := by omega
      have hw : IntKind.wrap .i64 (k + 2 * (i : Int) + 1) = k + 2 * (i : Int) + 1 := by rw [wrap_id] <;> omega
      have hw2 : IntKind.wrap .i64 (k + 2 * (i : Int) + 1 + 1) = k + 2 * ((i + 1 : Nat) : Int) := by rw [wrap_id] <;> omega
      rcases (h.she hE).blk with e | ⟨b0, b1, cs, hb, hc⟩
      · omega
      rw [R_eq, e_wmarkStepS_0, lt_true hlt, w1 hlt (by omega), cond_true, hw, hw2, ixA_nat hlt]
      simp only [Option.bind_some, h.o, Nat.zero_add, Nat.add_zero]
      rw [putR_one hb (by omega)]
      simp only [Option.bind_some]
      rw [putR_one (set_get hb) (by simp; omega), set_set]
      simp only [Option.bind_some]
      exact ih (i + 1) (by omega) _ (hE.trans (ShE.set (by omega) b0 b1 hb (by simp)))
  obtain ⟨H', e, hE⟩ := loop s.n 0 (by omega) H (ShE.refl _ _ _)
  have e : R (.loop F.wmarkStepS 0) [ssc s, isc (k + 2 * (0 : Int)), isc 0] H = some ⟨2, [isc (k + 2 * s.n)], H'⟩ := e
  rw [Int.mul_zero, Int.add_zero] at e
  exact ⟨H', by rw [R_eq, e_wmarkStepS, e]; rfl, hE⟩
/-- laws.markTensorS -/
theorem m_tensors {n0 n1 : Nat} {H : AH} {s : Sl} {ts : List Tn} (h : WT n0 n1 H s ts) (hl : ts.length ≤ 1048576) (hs : ∀ t ∈ ts, TnSmall t) :
    ∃ k' H', R (.fn F.wmarkTensorS) [ssc s, isc 1] H = some ⟨1, [isc k'], H'⟩ ∧ ShE n0 n1 H H' ∧ 0 ≤ k' ∧ k' ≤ 3298534883329 := by
  have loop : ∀ (m i : Nat), i + m = ts.length → ∀ Hc k, ShE n0 n1 H Hc → 0 ≤ k → k ≤ 1 + 3145728 * (i : Int) → ∃ k' H', R (.loop F.wmarkTensorS 0) [ssc s, isc k, isc (i : Int)] Hc = some ⟨2, [isc k'], H'⟩ ∧ ShE n0 n1 H H' ∧ 0 ≤ k' ∧ k' ≤ 1 + 3145728 * (ts.length : Int) := by
    intro m
    induction m with
    | zero =>
      intro i hi Hc k hE h0 h1
      obtain rfl : i = ts.length := by omega
      exact ⟨k, Hc, by rw [R_eq, e_wmarkTensorS_0, h.n, lt_self]; rfl, hE, h0, h1⟩
    | succ m ih =>
      intro i hi Hc k hE h0 h1
      have hlt : i < ts.length := by omega
      have hst := hs _ (List.getElem_mem hlt)
      have hT := h.she hE
      obtain ⟨cs, hb, hg⟩ := hT.blk
      obtain ⟨a, b, c, g1, g2, g3, g4⟩ := hg i ts[i] (List.getElem?_eq_getElem hlt)
      obtain ⟨H1, e1, E1⟩ := m_ints g4.wa (by rw [g4.na]; exact hst.1) h0 (by omega)
      obtain ⟨c1, b1, _, q1⟩ := E1.inn _ cs 3 hb
      rw [q1 rfl] at b1
      obtain ⟨H2, e2, E2⟩ := m_ints (g4.wb.she E1) (by rw [g4.nb]; exact hst.2.1) (k := k + a.n) (by omega) (by have := hst.1; have := g4.na; omega)
      obtain ⟨c2, b2, _, q2⟩ := E2.inn _ cs 3 b1
      rw [q2 rfl] at b2
      obtain ⟨H3, e3, E3⟩ := m_ints ((g4.wc.she E1).she E2) (by rw [g4.nc]; exact hst.2.2) (k := k + a.n + b.n) (by omega) (by have := hst.1; have := g4.na; have := hst.2.1; have := g4.nb; omega)
      have f1 := hst.1; have f2 := hst.2.1; have f3 := hst.2.2
      have y1 := g4.na; have y2 := g4.nb; have y3 := g4.nc
      obtain ⟨k', H', e4, E4, r1, r2⟩ := ih (i + 1) (by omega) H3 (k + a.n + b.n + c.n) (((hE.trans E1).trans E2).trans E3) (by omega) (by omega)
      refine ⟨k', H', ?_, E4, r1, r2⟩
      have rd : ∀ {G : AH}, G[s.b]? = some ⟨cs, .rw, 3⟩ → rdB G s.b = some cs := fun e => by unfold rdB; rw [e]; rfl
      rw [R_eq, e_wmarkTensorS_0, h.n, lt_true hlt, w1 hlt (by omega), cond_true, ixA_nat (by rw [h.n]; exact hlt), rd hb]
      simp only [Option.bind_some, h.o, Nat.zero_add, Nat.add_zero, slAt_get g1]
      rw [e1]
      simp only [Option.bind_some, one_int, rd b1, slAt_get g2]
      rw [e2]
      simp only [Option.bind_some, one_int, rd b2, slAt_get (show cs[i * 3 + 2]? = some (.sl c) from g3)]
      rw [e3]
      simp only [Option.bind_some, one_int]
      exact e4
  obtain ⟨k', H', e, hE, r1, r2⟩ := loop ts.length 0 (by omega) H 1 (ShE.refl _ _ _) (by omega) (by omega)
  have e : R (.loop F.wmarkTensorS 0) [ssc s, isc 1, isc 0] H = some ⟨2, [isc k'], H'⟩ := e
  exact ⟨k', H', by rw [R_eq, e_wmarkTensorS, e]; rfl, hE, r1, by omega⟩
/-- laws.markNetwork -/
theorem m_network {n0 n1 : Nat} {H : AH} {s u : Sl} {n : Nw} (h : WN n0 n1 H s u n) (hs : NwSmall n) :
    ∃ k' H', R (.fn F.wmarkNetwork) [npv n.r s u, isc 1] H = some ⟨1, [isc k'], H'⟩ ∧ ShE n0 n1 H H' ∧ 0 ≤ k' ∧ k' ≤ 3298535931905 := by
  obtain ⟨k1, H1, e1, E1, r1, r2⟩ := m_tensors h.ts hs.1 hs.2.2
  obtain ⟨H2, e2, E2⟩ := m_ints (h.op.she E1) (by rw [h.no]; exact hs.2.1) r1 (by omega)
  have := hs.2.1; have := h.no
  refine ⟨k1 + u.n, H2, ?_, E1.trans E2, by omega, by omega⟩
  rw [R_eq, e_wmarkNetwork, e1]
  simp only [Option.bind_some, one_int]
  rw [e2]
  simp only [Option.bind_some, one_int]
end Go.Abs
