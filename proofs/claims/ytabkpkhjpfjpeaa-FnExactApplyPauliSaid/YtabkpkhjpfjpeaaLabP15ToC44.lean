/- Part of the proof of FnExactApplyPauli: that for every input the law answers true and leaves what it reads as it was. Conditions: none beyond the given statement. -/
import Derived.Test.YtabkpkhjpfjpeaaLabC1ToP14
set_option linter.all false
/- Plans: the shapes of tensors and results (spec): what is kept. -/
namespace Go.Abs
set_option linter.all false
set_option maxRecDepth 10000

theorem IS.keepB {H H' : AH} {s : Sl} {l : List Int} (h : IS H s l) (hb : l ≠ [] → H'[s.b]? = H[s.b]?) : IS H' s l := by
  by_cases hl : l = []
  · exact ⟨h.n, h.c, .inl hl⟩
  · refine ⟨h.n, h.c, h.rd.imp id fun ⟨cs, h1, h2⟩ => ⟨cs, ?_, h2⟩⟩
    unfold rdB at h1 ⊢
    rw [hb hl]; exact h1
/-- The state of the shapes: rows of labels and sizes, and which are gone. -/
structure LS (H0 H : AH) (bs : Nat) (sa sg : Sl) (xs : List Tri) (al : List (List Int)) (gn : List Bool) (dm : Int → Int) : Prop where
  le : Go.Abs.Le H0 H
  blk : H[bs]? = some ⟨[.sl sa, .sl sg], .rw, 2⟩
  lo : H0.length ≤ bs
  all : OOut H0.length H sa xs
  gone : CO 1 H0.length H sg (bcs gn)
  len : al.length = xs.length
  glen : gn.length = xs.length
  labs : ∀ (i : Nat) x l, xs[i]? = some x → al[i]? = some l → IS H x.1 l ∧ IS H x.2.1 (l.map dm)
theorem LS.ext {H0 H H' : AH} {bs : Nat} {sa sg : Sl} {xs : List Tri} {al : List (List Int)} {gn : List Bool} {dm : Int → Int} (h : LS H0 H bs sa sg xs al gn dm) (k : Go.Abs.Le H H') : LS H0 H' bs sa sg xs al gn dm :=
  ⟨h.le.trans k, by rw [k.get _ (List.getElem?_eq_some_iff.1 h.blk).1]; exact h.blk, h.lo, h.all.le k, h.gone.le k, h.len, h.glen, fun i x l hx hl => let ⟨a, b⟩ := h.labs i x l hx hl; ⟨a.le k, b.le k⟩⟩
theorem LS.rd {H0 H : AH} {bs : Nat} {sa sg : Sl} {xs : List Tri} {al : List (List Int)} {gn : List Bool} {dm : Int → Int} (h : LS H0 H bs sa sg xs al gn dm) : rdB H bs = some [.sl sa, .sl sg] := by unfold rdB; rw [h.blk]; rfl
end Go.Abs
/- Plans: what a step keeps (spec). -/
namespace Go.Abs
set_option linter.all false
set_option maxRecDepth 10000

theorem CO.bool {n0 : Nat} {H : AH} {s : Sl} {gn : List Bool} (h : CO 1 n0 H s (bcs gn)) {i : Nat} (hi : i < gn.length) : H[s.b]? = some ⟨bcs gn, .rw, 1⟩ ∧ s.o = 0 ∧ s.n = gn.length := by
  have hn : s.n = gn.length := by have := h.n; simpa [bcs] using this
  refine ⟨?_, h.o, hn⟩
  rcases h.blk with ⟨e, _⟩ | ⟨_, _, e⟩
  · have := congrArg List.length e
    simp [bcs] at this
    subst this
    simp at hi
  · exact e
theorem OOut.ld {n0 : Nat} {H : AH} {s : Sl} {xs : List Tri} (h : OOut n0 H s xs) {i : Nat} (hi : i < xs.length) {α : Type} (k : Sl → Sl → Sl → Option α) :
    ((ixA s (i : Int) 3).bind fun o => (rdB H s.b).bind fun q => (slAt q o).bind fun x => (slAt q (o + 1)).bind fun y => (slAt q (o + 1 + 1)).bind fun z => k x y z) = k xs[i].1 xs[i].2.1 xs[i].2.2 := by
  obtain ⟨cs, h1, h2, h3, h4, h5⟩ := h.outer.rd (List.getElem?_eq_getElem hi)
  rw [h2]
  simp only [Option.bind_some, h1, slAt_get h3, slAt_get h4]
  rw [show i * 3 + 1 + 1 = i * 3 + 2 from rfl, slAt_get h5]
  rfl
end Go.Abs
/- Plans: a step (spec). -/
namespace Go.Abs
set_option linter.all false
set_option maxRecDepth 10000

end Go.Abs
/- Pure: the reference's shapes, told as numbers that are not gone. -/
namespace Go.Abs
set_option linter.all false

end Go.Abs
/- Plans: the steps (spec). -/
namespace Go.Abs
set_option linter.all false
set_option maxRecDepth 10000

theorem LS.keep {H0 H H' : AH} {bs : Nat} {sa sg : Sl} {xs : List Tri} {al : List (List Int)} {gn : List Bool} {dm : Int → Int} (h : LS H0 H bs sa sg xs al gn dm) (hl : Go.Abs.Le H0 H') (hb : H'[bs]? = H[bs]?) (ha : xs ≠ [] → H'[sa.b]? = H[sa.b]?) (hg : gn ≠ [] → H'[sg.b]? = H[sg.b]?)
    (hr : ∀ (i : Nat) x l, xs[i]? = some x → al[i]? = some l → l ≠ [] → H'[x.1.b]? = H[x.1.b]? ∧ H'[x.2.1.b]? = H[x.2.1.b]?) : LS H0 H' bs sa sg xs al gn dm :=
  ⟨hl, by rw [hb]; exact h.blk, h.lo, h.all.keep ha, h.gone.keep fun hne => hg fun e => hne (by rw [e]; rfl), h.len, h.glen, fun i x l hx hl' => by
    obtain ⟨c1, c2⟩ := h.labs i x l hx hl'
    exact ⟨c1.keepB fun hne => (hr i x l hx hl' hne).1, c2.keepB fun hne => (hr i x l hx hl' fun e => hne (by rw [e]; rfl)).2⟩⟩
end Go.Abs
/- Plans: how many labels there can be. -/
namespace Go.Abs
set_option linter.all false
end Go.Abs
/- Plans: the steps, one after the other (spec). -/
namespace Go.Abs
set_option linter.all false
set_option maxRecDepth 10000

end Go.Abs
/- Plans: the shapes of a network (spec). -/
namespace Go.Abs
set_option linter.all false
set_option maxRecDepth 10000

end Go.Abs
/- Plans: the shapes of a network, whole (spec). -/
namespace Go.Abs
set_option linter.all false
set_option maxRecDepth 10000

end Go.Abs
/- Plans: the shapes of a network, the call (spec). -/
namespace Go.Abs
set_option linter.all false
set_option maxRecDepth 10000

end Go.Abs
/- Pure: each tensor's dimensions are its labels', in a valid network; the start as numbers. -/
namespace Go.Abs
set_option linter.all false

theorem lk_mem : ∀ {L D : List Int}, L.Nodup → ∀ y ∈ L.zip D, lk L D y.1 = some y.2
  | [], _, _, y, h => by simp at h
  | a :: L, [], _, y, h => by simp at h
  | a :: L, e :: D, hd, y, h => by
    have hn := List.nodup_cons.1 hd
    unfold lk
    rcases List.mem_cons.1 (by simpa using h) with h | h
    · subst h; simp
    · have hm : y.1 ∈ L := (List.of_mem_zip h).1
      have : (a == y.1) = false := by
        have : a ≠ y.1 := fun e => hn.1 (e ▸ hm)
        simpa using this
      rw [this]
      simpa using lk_mem hn.2 y h
theorem dims_map {f : Int → Int} : ∀ {L D : List Int}, L.length = D.length → (∀ y ∈ L.zip D, f y.1 = y.2) → D = L.map f
  | [], [], _, _ => rfl
  | a :: L, d :: D, hl, h => by
    have h0 := h (a, d) (by simp)
    have := dims_map (f := f) (L := L) (D := D) (by simpa using hl) fun y hy => h y (by simp [hy])
    simp only [List.map_cons]
    rw [← this, h0]
  | [], _ :: _, hl, _ => by simp at hl
  | _ :: _, [], hl, _ => by simp at hl
end Go.Abs
/- Plans: the steps of a network, the call (spec). -/
namespace Go.Abs
set_option linter.all false
set_option maxRecDepth 10000

/-- A network's shapes as the reference needs them. -/
structure SN (n : Nw) : Prop where
  l : n.ts.length ≤ 12
  op : n.op.length ≤ 1000
  d : ∀ t ∈ n.ts, t.D = t.L.map (dimF n.ts)
  labs : ∀ t ∈ n.ts, t.L.Nodup ∧ LabsOk (dimF n.ts) t.L
end Go.Abs
/- Plans: cost and peak of a network (spec). -/
namespace Go.Abs
set_option linter.all false
set_option maxRecDepth 10000

end Go.Abs
/- Plans: a plan is made and checked (spec); what it saves (both). -/
namespace Go.Abs
set_option linter.all false
set_option maxRecDepth 10000

end Go.Abs
/- Pure: two tensors are contracted, the sums in the order of the indices. -/
namespace Go.Abs
set_option linter.all false
set_option maxRecDepth 10000

theorem sum_zero (f : Int → Int) : ∀ l : List Int, (∀ x ∈ l, f x = 0) → (l.map f).sum = 0
  | [], _ => rfl
  | x :: l, h => by
    simp only [List.map_cons, List.sum_cons]
    rw [h x List.mem_cons_self, sum_zero f l fun y hy => h y (List.mem_cons_of_mem _ hy)]; rfl
theorem sum_mid (f : Int → Int) (y : Int) : ∀ a b : List Int, ((a ++ y :: b).map f).sum = f y + ((a ++ b).map f).sum
  | [], b => by simp
  | x :: a, b => by
    simp only [List.cons_append, List.map_cons, List.sum_cons]
    rw [sum_mid f y a b]; omega
theorem sum_sub (f : Int → Int) : ∀ {L m : List Int}, m.Nodup → L.Nodup → (∀ x ∈ L, x ∈ m) → (∀ x ∈ m, x ∉ L → f x = 0) → (m.map f).sum = (L.map f).sum
  | [], m, _, _, _, hz => by rw [sum_zero f m fun x hx => hz x hx (by simp)]; rfl
  | y :: L, m, hm, hL, hs, hz => by
    obtain ⟨m1, m2, rfl⟩ := List.append_of_mem (hs y List.mem_cons_self)
    have hn := List.nodup_cons.1 ((List.perm_middle).nodup_iff.1 hm)
    have hl := List.nodup_cons.1 hL
    rw [sum_mid, List.map_cons, List.sum_cons]
    rw [sum_sub f (L := L) (m := m1 ++ m2) hn.2 hl.2 (fun x hx => ?_) (fun x hx hx2 => ?_)]
    · have h1 := hs x (List.mem_cons_of_mem _ hx)
      rcases List.mem_append.1 h1 with h | h
      · exact List.mem_append.2 (.inl h)
      · rcases List.mem_cons.1 h with h | h
        · subst h; exact absurd hx hl.1
        · exact List.mem_append.2 (.inr h)
    · refine hz x ?_ fun h => ?_
      · rcases List.mem_append.1 hx with h | h
        · exact List.mem_append.2 (.inl h)
        · exact List.mem_append.2 (.inr (List.mem_cons_of_mem _ h))
      · rcases List.mem_cons.1 h with h | h
        · subst h; exact hn.1 hx
        · exact hx2 h
theorem dot_map (v g : Int → Int) : ∀ m : List Int, dotL (m.map v) (m.map g) = (m.map fun x => v x * g x).sum
  | [] => rfl
  | x :: m => by simp only [List.map_cons, dotL, List.sum_cons]; rw [dot_map v g m]
def gI (m I : List Int) (x : Int) : Int := (lk m I x).getD 0
theorem map_gI {m I : List Int} (hm : m.Nodup) (hl : m.length = I.length) : I = m.map (gI m I) := dims_map hl fun y hy => by unfold gI; rw [lk_mem hm y hy]; rfl
theorem fits_map (dm g : Int → Int) : ∀ L : List Int, fitsI (L.map dm) (L.map g) ↔ ∀ x ∈ L, 0 ≤ g x ∧ g x < dm x
  | [] => by simp [fitsI]
  | y :: L => by
    simp only [List.map_cons, fitsI, List.mem_cons, forall_eq_or_imp]
    rw [fits_map dm g L, and_assoc]
def strM (m L D : List Int) : List Int := strG m L.reverse D.reverse 1 (List.replicate m.length 0)
theorem strM_map (m L D : List Int) : strM m L D = m.map fun x => valS x L.reverse D.reverse 1 0 := by
  unfold strM
  rw [strG_val _ _ _ _ _ (by simp)]
  refine List.ext_getElem (by simp) fun i h1 h2 => ?_
  simp
theorem dot_strM {m L D : List Int} {dm : Int → Int} {I : List Int} (hm : m.Nodup) (hL : L.Nodup) (hs : ∀ x ∈ L, x ∈ m) (hD : D = L.map dm) (hI : fitsI (m.map dm) I) : 0 ≤ dotL (strM m L D) I ∧ dotL (strM m L D) I < prd D := by
  have hl := fits_len hI
  rw [List.length_map] at hl
  have hg := map_gI hm hl.symm
  have hf : fitsI D (L.map (gI m I)) := by
    rw [hD, fits_map]
    rw [hg] at hI
    have := (fits_map dm (gI m I) m).1 hI
    exact fun x hx => this x (hs x hx)
  have e : dotL (strM m L D) I = offF D (L.map (gI m I)) := by
    conv => lhs; rw [hg]
    rw [strM_map, dot_map, sum_sub _ hm hL hs fun x _ hx => by rw [valS_none (by simpa using hx)]; simp, ← dot_map, str_full hL (by rw [hD]; simp)]
    exact dot_strF (fits_len hf)
  rw [e]
  exact offF_range hf
/-- An element of a ring's tensors. -/
def VE (r : Rg) (x : List Int) : Prop := (x.length : Int) = widthR r ∧ ∀ v ∈ x, 0 ≤ v ∧ v ≤ topR r
def getE (w : Nat) (X : List Int) (n : Nat) : List Int := (X.drop (n * w)).take w
/-- One product is added. -/
def pairS (A M : List Int → List Int → List Int) (w : Nat) (sa sb so XA XB I : List Int) (E : List (List Int)) : List (List Int) :=
  E.set (dotL so I).toNat (A (E.getD (dotL so I).toNat []) (M (getE w XA (dotL sa I).toNat) (getE w XB (dotL sb I).toNat)))
def pairR (f : List Int → List (List Int) → List (List Int)) (D : List Int) : Nat → Nat → List (List Int) → List (List Int)
  | 0, _, E => E
  | k + 1, n, E => pairR f D k (n + 1) (f (idxF D (n : Int)) E)
/-- The ring's sums and products. -/
structure AlgOk (r : Rg) (A M : List Int → List Int → List Int) : Prop where
  rg : ringB r = true
  z : VE r (zeroR r)
  a : ∀ {x y}, VE r x → VE r y → VE r (A x y)
  m : ∀ {x y}, VE r x → VE r y → VE r (M x y)
def pairE (r : Rg) (A M : List Int → List Int → List Int) (dm : Int → Int) (a b : Tn) (m L : List Int) : List (List Int) :=
  pairR (pairS A M (widthR r).toNat (strM m a.L a.D) (strM m b.L b.D) (strM m L (L.map dm)) a.X b.X) (m.map dm) (prd (m.map dm)).toNat 0 (List.replicate (prd (L.map dm)).toNat (zeroR r))
/-- A tensor that conforms to the dimensions of labels. -/
structure CT (r : Rg) (dm : Int → Int) (t : Tn) : Prop where
  ok : tensorB r t = true
  d : t.D = t.L.map dm
theorem CT.nodup {r : Rg} {dm : Int → Int} {t : Tn} (h : CT r dm t) : t.L.Nodup := dist_nodup (tensor_facts h.ok).2.1
theorem CT.labs {r : Rg} {dm : Int → Int} {t : Tn} (h : CT r dm t) : LabsOk dm t.L := fun x hx => by
  have h1 := (tensor_facts h.ok).1.2.2 x hx
  have h2 := (tensor_facts h.ok).2.2 (dm x) (by rw [h.d]; exact List.mem_map.2 ⟨x, hx, rfl⟩)
  exact ⟨h1.1, h1.2, h2.1, h2.2⟩
theorem CT.len {r : Rg} {dm : Int → Int} {t : Tn} (h : CT r dm t) : t.L.length ≤ 12 ∧ t.D.length = t.L.length := by
  have := tensor_dims h.ok
  omega
theorem getE_ve {r : Rg} {t : Tn} (h : tensorB r t = true) {n : Nat} (hn : (n : Int) < prd t.D) : VE r (getE (widthR r).toNat t.X n) := by
  have hT := tensor_ok h
  have hw := width_range hT.rg
  have hp := prd_pos hT.d.ge
  obtain ⟨w, hw'⟩ : ∃ w : Nat, widthR r = (w : Int) := ⟨(widthR r).toNat, by omega⟩
  obtain ⟨N, hN⟩ : ∃ N : Nat, prd t.D = (N : Int) := ⟨(prd t.D).toNat, by omega⟩
  have hl := hT.len
  rw [hw', hN, ← Int.natCast_mul] at hl
  have hl : t.X.length = N * w := by omega
  have hlt : n + 1 ≤ N := by omega
  have h2 : (n + 1) * w ≤ N * w := Nat.mul_le_mul_right _ hlt
  rw [Nat.add_mul, Nat.one_mul] at h2
  refine ⟨?_, fun v hv => ?_⟩
  · unfold getE
    rw [hw', Int.toNat_natCast, List.length_take, List.length_drop]
    omega
  · have hm := List.mem_of_mem_drop (List.mem_of_mem_take hv)
    have := List.all_eq_true.1 hT.all v hm
    simpa [inB] using this
theorem pairR_ok {r : Rg} {f : List Int → List (List Int) → List (List Int)} {D : List Int} {N : Nat} (hf : ∀ (n : Nat) E, E.length = N → (∀ e ∈ E, VE r e) → (n : Int) < prd D → (f (idxF D (n : Int)) E).length = N ∧ ∀ e ∈ f (idxF D (n : Int)) E, VE r e) :
    ∀ (k n : Nat) (E : List (List Int)), E.length = N → (∀ e ∈ E, VE r e) → ((n + k : Nat) : Int) ≤ prd D → (pairR f D k n E).length = N ∧ ∀ e ∈ pairR f D k n E, VE r e
  | 0, n, E, h1, h2, _ => ⟨h1, h2⟩
  | k + 1, n, E, h1, h2, h3 => by
    obtain ⟨g1, g2⟩ := hf n E h1 h2 (by omega)
    exact pairR_ok hf k (n + 1) _ g1 g2 (by omega)
/-- What a pair's walk needs. -/
structure PairC (r : Rg) (dm : Int → Int) (a b : Tn) (m L : List Int) : Prop where
  ca : CT r dm a
  cb : CT r dm b
  nm : m.Nodup
  ma : ∀ x ∈ a.L, x ∈ m
  mb : ∀ x ∈ b.L, x ∈ m
  ml : ∀ x ∈ L, x ∈ m
  nl : L.Nodup
  labs : LabsOk dm m
theorem PairC.fits {r : Rg} {dm : Int → Int} {a b : Tn} {m L : List Int} (h : PairC r dm a b m L) (n : Int) : fitsI (m.map dm) (idxF (m.map dm) n) := idxF_fits fun d hd => by
  obtain ⟨x, hx, rfl⟩ := List.mem_map.1 hd
  exact (h.labs x hx).2.2.1
theorem PairC.da {r : Rg} {dm : Int → Int} {a b : Tn} {m L : List Int} (h : PairC r dm a b m L) (n : Int) : 0 ≤ dotL (strM m a.L a.D) (idxF (m.map dm) n) ∧ dotL (strM m a.L a.D) (idxF (m.map dm) n) < prd a.D := dot_strM h.nm h.ca.nodup h.ma h.ca.d (h.fits n)
theorem PairC.db {r : Rg} {dm : Int → Int} {a b : Tn} {m L : List Int} (h : PairC r dm a b m L) (n : Int) : 0 ≤ dotL (strM m b.L b.D) (idxF (m.map dm) n) ∧ dotL (strM m b.L b.D) (idxF (m.map dm) n) < prd b.D := dot_strM h.nm h.cb.nodup h.mb h.cb.d (h.fits n)
theorem PairC.dl {r : Rg} {dm : Int → Int} {a b : Tn} {m L : List Int} (h : PairC r dm a b m L) (n : Int) : 0 ≤ dotL (strM m L (L.map dm)) (idxF (m.map dm) n) ∧ dotL (strM m L (L.map dm)) (idxF (m.map dm) n) < prd (L.map dm) := dot_strM h.nm h.nl h.ml rfl (h.fits n)
theorem PairC.step {r : Rg} {A M : List Int → List Int → List Int} {dm : Int → Int} {a b : Tn} {m L : List Int} (h : PairC r dm a b m L) (hA : AlgOk r A M) (n : Nat) (E : List (List Int)) (hl : E.length = (prd (L.map dm)).toNat) (hE : ∀ e ∈ E, VE r e) :
    (pairS A M (widthR r).toNat (strM m a.L a.D) (strM m b.L b.D) (strM m L (L.map dm)) a.X b.X (idxF (m.map dm) (n : Int)) E).length = (prd (L.map dm)).toNat ∧ ∀ e ∈ pairS A M (widthR r).toNat (strM m a.L a.D) (strM m b.L b.D) (strM m L (L.map dm)) a.X b.X (idxF (m.map dm) (n : Int)) E, VE r e := by
  have d1 := h.da n; have d2 := h.db n; have d3 := h.dl n
  unfold pairS
  refine ⟨by simpa using hl, fun e he => ?_⟩
  rcases List.mem_or_eq_of_mem_set he with he | rfl
  · exact hE e he
  · have hlt : (dotL (strM m L (L.map dm)) (idxF (m.map dm) (n : Int))).toNat < E.length := by omega
    refine hA.a ?_ (hA.m (getE_ve h.ca.ok (by omega)) (getE_ve h.cb.ok (by omega)))
    rw [List.getD_eq_getElem?_getD, List.getElem?_eq_getElem hlt]
    exact hE _ (List.getElem_mem hlt)
theorem PairC.out {r : Rg} {A M : List Int → List Int → List Int} {dm : Int → Int} {a b : Tn} {m L : List Int} (h : PairC r dm a b m L) (hA : AlgOk r A M) : (pairE r A M dm a b m L).length = (prd (L.map dm)).toNat ∧ ∀ e ∈ pairE r A M dm a b m L, VE r e := by
  unfold pairE
  have hpos : 0 ≤ prd (m.map dm) := by
    have := prd_pos (a := m.map dm) fun d hd => by
      obtain ⟨x, hx, rfl⟩ := List.mem_map.1 hd
      exact (h.labs x hx).2.2.1
    omega
  refine pairR_ok (fun n E h1 h2 _ => h.step hA n E h1 h2) _ _ _ (by simp) (fun e he => ?_) (by omega)
  rw [(List.mem_replicate.1 he).2]
  exact hA.z
theorem flatV_len {r : Rg} : ∀ {E : List (List Int)}, (∀ e ∈ E, VE r e) → (E.flatten.length : Int) = E.length * widthR r
  | [], _ => by simp
  | e :: E, h => by
    have h1 := (h e List.mem_cons_self).1
    have h2 := flatV_len (E := E) fun x hx => h x (List.mem_cons_of_mem _ hx)
    simp only [List.flatten_cons, List.length_append, List.length_cons, Int.natCast_add, h1, h2]
    rw [show ((1 : Nat) : Int) = 1 from rfl, Int.add_mul, Int.one_mul]; omega
end Go.Abs
/- The sums and products of a ring, as the contraction needs them; they stand for the integers modulo a prime. -/
namespace Go.Abs
set_option linter.all false
set_option maxRecDepth 10000

structure RC (r : Rg) (A M : List Int → List Int → List Int) : Prop where
  alg : AlgOk r A M
  addI : ∀ {H : AH} {c s : Sl} {cs y : List Int}, H[c.b]? = some ⟨ics cs, .rw, 1⟩ → (c.n : Int) = widthR r → c.n ≤ c.c → c.o + c.n ≤ cs.length → VE r ((cs.drop c.o).take c.n) → IS H s y → VE r y → s.b ≠ c.b →
    R (.fn F.iaddInto) [r.pv, ssc c, ssc s] H = some ⟨1, [], H.set c.b ⟨ics (putL cs c.o (A ((cs.drop c.o).take c.n) y)), .rw, 1⟩⟩
  mulI : ∀ {H : AH} {b : Nat} {q : Bool} {s u : Sl} {z x y : List Int}, H[b]? = some ⟨ics z, .rw, 1⟩ → (z.length : Int) = widthR r → IS H s x → IS H u y → VE r x → VE r y → s.b ≠ b → u.b ≠ b →
    R (.fn F.imulInto) [r.pv, ssc ⟨b, 0, z.length, z.length, q⟩, ssc s, ssc u] H = some ⟨1, [], H.set b ⟨ics (M x y), .rw, 1⟩⟩
  addS : ∀ {H : AH} {s u : Sl} {x y : List Int}, IS H s x → IS H u y → VE r x → VE r y → ∃ s' H', R (.fn F.sl02Add) [r.pv, ssc s, ssc u] H = some ⟨1, [ssc s'], H'⟩ ∧ Go.Abs.Le H H' ∧ IS H' s' (A x y) ∧ H.length ≤ s'.b
  mulS : ∀ {H : AH} {s u : Sl} {x y : List Int}, IS H s x → IS H u y → VE r x → VE r y → ∃ s' H', R (.fn F.sl02Mul) [r.pv, ssc s, ssc u] H = some ⟨1, [ssc s'], H'⟩ ∧ Go.Abs.Le H H' ∧ IS H' s' (M x y)
theorem n_bool (b : Bool) {α : Type} (k : Bool → Option α) : ((nthP [bsc b] 0).bind fun p => p.sc?.bind fun c => (boolAt [c] 0).bind k) = k b := rfl
theorem putL_one (cs : List Int) (o : Nat) (v : Int) (h : o < cs.length) : putL cs o [v] = cs.set o v := by
  unfold putL
  rw [List.set_eq_take_append_cons_drop, if_pos h]
  simp
def modA (p : Int) (x y : List Int) : List Int := [(x.getD 0 0 + y.getD 0 0).tmod p]
def modM (p : Int) (x y : List Int) : List Int := [(x.getD 0 0 * y.getD 0 0).tmod p]
structure MP (r : Rg) : Prop where
  k : r.k = 2
  rg : ringB r = true
  lo : 2 ≤ r.p
  hi : r.p ≤ 1000003
theorem MP.w {r : Rg} (h : MP r) : widthR r = 1 := by
  have := h.k
  unfold widthR
  rw [if_neg (by omega), if_neg (by omega)]
theorem MP.top {r : Rg} (h : MP r) : topR r = r.p - 1 := by
  have := h.k; have := h.lo; have := h.hi
  unfold topR
  rw [if_neg (by omega), if_neg (by omega), if_neg (by omega), wrap_id] <;> omega
theorem MP.ve {r : Rg} (h : MP r) {x : List Int} : VE r x ↔ ∃ a, x = [a] ∧ 0 ≤ a ∧ a < r.p := by
  unfold VE
  rw [h.w, h.top]
  constructor
  · rintro ⟨h1, h2⟩
    match x, h1 with
    | [a], _ =>
      have := h2 a (by simp)
      exact ⟨a, rfl, this.1, by omega⟩
    | [], h1 => simp at h1
    | _ :: _ :: _, h1 => simp at h1; omega
  · rintro ⟨a, rfl, h1, h2⟩
    refine ⟨rfl, fun v hv => ?_⟩
    simp at hv; subst hv
    exact ⟨h1, by omega⟩
theorem tmod_rng {a p : Int} (ha : 0 ≤ a) (hp : 0 < p) : 0 ≤ a.tmod p ∧ a.tmod p < p := ⟨Int.tmod_nonneg _ ha, Int.tmod_lt_of_pos _ hp⟩
theorem MP.zero {r : Rg} (h : MP r) : VE r (zeroR r) := by
  refine h.ve.2 ⟨0, ?_, by omega, by have := h.lo; omega⟩
  have := h.k; have := h.w
  unfold zeroR
  rw [this, if_neg (by omega)]
  rfl
theorem MP.alg {r : Rg} (h : MP r) : AlgOk r (modA r.p) (modM r.p) := by
  have := h.lo
  refine ⟨h.rg, h.zero, fun {x y} hx hy => ?_, fun {x y} hx hy => ?_⟩
  · obtain ⟨a, rfl, a1, a2⟩ := h.ve.1 hx
    obtain ⟨b, rfl, b1, b2⟩ := h.ve.1 hy
    have := tmod_rng (a := a + b) (p := r.p) (by omega) (by omega)
    exact h.ve.2 ⟨_, rfl, this.1, this.2⟩
  · obtain ⟨a, rfl, a1, a2⟩ := h.ve.1 hx
    obtain ⟨b, rfl, b1, b2⟩ := h.ve.1 hy
    have := tmod_rng (a := a * b) (p := r.p) (Int.mul_nonneg a1 b1) (by omega)
    exact h.ve.2 ⟨_, rfl, this.1, this.2⟩
/-- The integers modulo a prime. -/
theorem MP.rc {r : Rg} (h : MP r) : RC r (modA r.p) (modM r.p) := by
  have hk := h.k; have hlo := h.lo; have hhi := h.hi; have hw := h.w
  have k1 : (r.k == 1) = false := by rw [hk]; rfl
  have k2 : (r.k == 2) = true := by rw [hk]; rfl
  have k3 : (r.k == 3) = false := by rw [hk]; rfl
  have k4 : (r.k == 4) = false := by rw [hk]; rfl
  have k5 : (r.k == 5) = false := by rw [hk]; rfl
  have k6 : (r.k == 6) = false := by rw [hk]; rfl
  have hp0 : (r.p == 0) = false := by simp; omega
  have hw1 : IntKind.wrap .i64 ((0 : Int) + 1) = 1 := by decide
  have sml : ∀ a b : Int, 0 ≤ a → a < r.p → 0 ≤ b → b < r.p → 0 ≤ a * b ∧ a * b ≤ 1000003 * 1000003 := fun a b h1 h2 h3 h4 => ⟨Int.mul_nonneg h1 h3, Int.mul_le_mul (by omega) (by omega) h3 (by omega)⟩
  refine ⟨h.alg, ?_, ?_, ?_, ?_⟩
  · intro H c s cs y hb hn hc hl hx hs hy hne
    rw [hw] at hn
    have hn1 : c.n = 1 := by omega
    rw [hn1] at hx hl ⊢
    obtain ⟨b, rfl, b1, b2⟩ := h.ve.1 hy
    obtain ⟨a, ha, a1, a2⟩ := h.ve.1 hx
    rw [ha]
    have hic : IS H c [a] := by
      refine ⟨hn1, hc, .inr ⟨ics cs, by unfold rdB; rw [hb]; rfl, fun i x hi => ?_⟩⟩
      rw [← ha, List.getElem?_take] at hi
      split at hi
      · rw [List.getElem?_drop] at hi
        simp [hi]
      · cases hi
    have hw2 : IntKind.wrap .i64 (a + b) = a + b := by rw [wrap_id] <;> omega
    have e0 : ∀ G : AH, R (.loop F.iaddInto 0) [ssc c, ssc s, isc 1, isc 1, r.pv] G = some ⟨3, [], G⟩ := fun G => by rw [R_eq, e_iaddInto_0]; rfl
    have e1 : R (.loop F.iaddInto 0) [ssc c, ssc s, isc 1, isc 0, r.pv] H = some ⟨3, [], H.set c.b ⟨ics (putL cs c.o (modA r.p [a] [b])), .rw, 1⟩⟩ := by
      have q1 := hic.ldk (i := 0) (by simp) (fun n39 => ((ixA s 0 1).bind fun o40 => (rdB H s.b).bind fun c41 => (intAt .i64 c41 o40).bind fun n42 => cond (r.p == 0) none ((ixA c 0 1).bind fun o43 => (putR H c.b o43 [.int .i64 (Int.tmod (IntKind.wrap .i64 (n39 + n42)) r.p)]).bind fun H44 => R (.loop F.iaddInto 0) [ssc c, ssc s, isc 1, isc (IntKind.wrap .i64 ((0 : Int) + 1)), r.pv] H44)))
      have q2 := hs.ldk (i := 0) (by simp) (fun n42 => cond (r.p == 0) none ((ixA c 0 1).bind fun o43 => (putR H c.b o43 [.int .i64 (Int.tmod (IntKind.wrap .i64 (a + n42)) r.p)]).bind fun H44 => R (.loop F.iaddInto 0) [ssc c, ssc s, isc 1, isc (IntKind.wrap .i64 ((0 : Int) + 1)), r.pv] H44))
      rw [R_eq, e_iaddInto_0]
      rw [show decide ((0 : Int) < 1) = true from rfl, cond_true]
      refine q1.trans ?_
      show ((ixA s 0 1).bind fun o40 => _) = _
      refine q2.trans ?_
      show cond (r.p == 0) none ((ixA c 0 1).bind fun o43 => (putR H c.b o43 [.int .i64 (Int.tmod (IntKind.wrap .i64 (a + b)) r.p)]).bind fun H44 => R (.loop F.iaddInto 0) [ssc c, ssc s, isc 1, isc (IntKind.wrap .i64 ((0 : Int) + 1)), r.pv] H44) = _
      have hix : ixA c 0 1 = some c.o := by
        have := ixA_nat (s := c) (i := 0) (z := 1) (by omega)
        simpa using this
      rw [hp0, cond_false, hix]
      simp only [Option.bind_some]
      rw [hw1, hw2, putR_one hb (by simp; omega)]
      simp only [Option.bind_some]
      rw [e0]
      have : (ics cs).set c.o (.int .i64 (Int.tmod (a + b) r.p)) = ics (putL cs c.o (modA r.p [a] [b])) := by
        have e : modA r.p [a] [b] = [Int.tmod (a + b) r.p] := rfl
        rw [e, putL_one _ _ _ (by omega)]
        simp [List.map_set]
      rw [this]
    rw [R_eq, e_iaddInto, hn1]
    simp only [k1, k3, k4, k5, k6, cond_false, Option.bind_some, Nat.beq, cond_true, n_bool]
    have e1 : R (.loop F.iaddInto 0) [ssc c, ssc s, isc ((1 : Nat) : Int), isc 0, r.pv] H = _ := e1
    rw [e1]
    rfl
  · intro H b q s u z x y hb hz hs hu hx hy h1 h2
    rw [hw] at hz
    obtain ⟨a, rfl, a1, a2⟩ := h.ve.1 hx
    obtain ⟨d, rfl, d1, d2⟩ := h.ve.1 hy
    obtain ⟨m1, m2⟩ := sml a d a1 a2 d1 d2
    have hw2 : IntKind.wrap .i64 (a * d) = a * d := by rw [wrap_id] <;> omega
    have hz1 : z.length = 1 := by omega
    obtain ⟨zz, rfl⟩ : ∃ v, z = [v] := by
      match z, hz1 with
      | [v], _ => exact ⟨v, rfl⟩
    rw [R_eq, e_imulInto]
    simp only [k1, k2, k5, cond_false, Option.bind_some, Nat.beq, cond_true, n_bool]
    have q1 := hs.ldk (i := 0) (by simp) (fun n15 => ((ixA u 0 1).bind fun o16 => (rdB H u.b).bind fun c17 => (intAt .i64 c17 o16).bind fun n18 => cond (r.p == 0) none ((ixA ⟨b, 0, 1, 1, q⟩ 0 1).bind fun o19 => (putR H b o19 [.int .i64 (Int.tmod (IntKind.wrap .i64 (n15 * n18)) r.p)]).bind fun H20 => some (⟨1, [], H20⟩ : Out))))
    have q2 := hu.ldk (i := 0) (by simp) (fun n18 => cond (r.p == 0) none ((ixA ⟨b, 0, 1, 1, q⟩ 0 1).bind fun o19 => (putR H b o19 [.int .i64 (Int.tmod (IntKind.wrap .i64 (a * n18)) r.p)]).bind fun H20 => some (⟨1, [], H20⟩ : Out)))
    refine q1.trans (q2.trans ?_)
    show cond (r.p == 0) none ((ixA ⟨b, 0, 1, 1, q⟩ 0 1).bind fun o19 => (putR H b o19 [.int .i64 (Int.tmod (IntKind.wrap .i64 (a * d)) r.p)]).bind fun H20 => some (⟨1, [], H20⟩ : Out)) = _
    rw [hp0, cond_false, hw2]
    rw [show ixA ⟨b, 0, 1, 1, q⟩ 0 1 = some 0 from rfl]
    simp only [Option.bind_some]
    rw [putR_one hb (by simp)]
    rfl
  · intro H s u x y hs hu hx hy
    obtain ⟨a, rfl, a1, a2⟩ := h.ve.1 hx
    obtain ⟨d, rfl, d1, d2⟩ := h.ve.1 hy
    have hw2 : IntKind.wrap .i64 (a + d) = a + d := by rw [wrap_id] <;> omega
    have hn : s.n = 1 := hs.n
    have l1 := Go.Abs.Le.app H [⟨[.int .i64 0], .rw, 1⟩]
    have hm : mkB H 1 8 [.int .i64 0] ((1 : Nat) : Int) ((1 : Nat) : Int) = some (⟨H.length, 0, 1, 1, true⟩, H ++ [⟨[.int .i64 0], .rw, 1⟩]) := mk_ints (n := 1) (by omega)
    refine ⟨⟨H.length, 0, 1, 1, true⟩, H ++ [⟨ics (modA r.p [a] [d]), .rw, 1⟩], ?_, Go.Abs.Le.app _ _, IS.of_blk (l := modA r.p [a] [d]) (c := 1) app_get (by simp [modA]), Nat.le_refl _⟩
    have e0 : ∀ G : AH, R (.loop F.sl02Add 0) [ssc s, ssc u, ssc ⟨H.length, 0, 1, 1, true⟩, isc 1, isc 1, r.pv] G = some ⟨2, [], G⟩ := fun G => by rw [R_eq, e_sl02Add_0]; rfl
    have e1 : R (.loop F.sl02Add 0) [ssc s, ssc u, ssc ⟨H.length, 0, 1, 1, true⟩, isc 1, isc 0, r.pv] (H ++ [⟨[.int .i64 0], .rw, 1⟩]) = some ⟨2, [], H ++ [⟨ics (modA r.p [a] [d]), .rw, 1⟩]⟩ := by
      rw [R_eq, e_sl02Add_0]
      rw [show decide ((0 : Int) < 1) = true from rfl, cond_true]
      simp only [k1, k3, k4, k5, k6, cond_false, Option.bind_some, Nat.beq, cond_true, n_bool]
      have q1 := (hs.le l1).ldk (i := 0) (by simp) (fun n40 => ((ixA u 0 1).bind fun o41 => (rdB (H ++ [⟨[.int .i64 0], .rw, 1⟩]) u.b).bind fun c42 => (intAt .i64 c42 o41).bind fun n43 => cond (r.p == 0) none ((ixA ⟨H.length, 0, 1, 1, true⟩ 0 1).bind fun o44 => (putR (H ++ [⟨[.int .i64 0], .rw, 1⟩]) H.length o44 [.int .i64 (Int.tmod (IntKind.wrap .i64 (n40 + n43)) r.p)]).bind fun H45 => R (.loop F.sl02Add 0) [ssc s, ssc u, ssc ⟨H.length, 0, 1, 1, true⟩, isc 1, isc (IntKind.wrap .i64 ((0 : Int) + 1)), r.pv] H45)))
      have q2 := (hu.le l1).ldk (i := 0) (by simp) (fun n43 => cond (r.p == 0) none ((ixA ⟨H.length, 0, 1, 1, true⟩ 0 1).bind fun o44 => (putR (H ++ [⟨[.int .i64 0], .rw, 1⟩]) H.length o44 [.int .i64 (Int.tmod (IntKind.wrap .i64 (a + n43)) r.p)]).bind fun H45 => R (.loop F.sl02Add 0) [ssc s, ssc u, ssc ⟨H.length, 0, 1, 1, true⟩, isc 1, isc (IntKind.wrap .i64 ((0 : Int) + 1)), r.pv] H45))
      refine q1.trans (q2.trans ?_)
      show cond (r.p == 0) none ((ixA ⟨H.length, 0, 1, 1, true⟩ 0 1).bind fun o44 => (putR (H ++ [⟨[.int .i64 0], .rw, 1⟩]) H.length o44 [.int .i64 (Int.tmod (IntKind.wrap .i64 (a + d)) r.p)]).bind fun H45 => R (.loop F.sl02Add 0) [ssc s, ssc u, ssc ⟨H.length, 0, 1, 1, true⟩, isc 1, isc (IntKind.wrap .i64 ((0 : Int) + 1)), r.pv] H45) = _
      rw [hp0, cond_false, hw2, hw1]
      rw [show ixA ⟨H.length, 0, 1, 1, true⟩ 0 1 = some 0 from rfl]
      simp only [Option.bind_some]
      rw [putR_one app_get (by simp), app_set]
      simp only [Option.bind_some]
      rw [e0]
      rfl
    rw [R_eq, e_sl02Add, hn, hm]
    simp only [Option.bind_some]
    have e1 : R (.loop F.sl02Add 0) [ssc s, ssc u, ssc ⟨H.length, 0, 1, 1, true⟩, isc ((1 : Nat) : Int), isc 0, r.pv] (H ++ [⟨[.int .i64 0], .rw, 1⟩]) = _ := e1
    rw [e1]
    rfl
  · intro H s u x y hs hu hx hy
    obtain ⟨a, rfl, a1, a2⟩ := h.ve.1 hx
    obtain ⟨d, rfl, d1, d2⟩ := h.ve.1 hy
    obtain ⟨m1, m2⟩ := sml a d a1 a2 d1 d2
    have hw2 : IntKind.wrap .i64 (a * d) = a * d := by rw [wrap_id] <;> omega
    have hn : s.n = 1 := hs.n
    have l1 := Go.Abs.Le.app H [⟨[.int .i64 0], .rw, 1⟩]
    have hm : mkB H 1 8 [.int .i64 0] ((1 : Nat) : Int) ((1 : Nat) : Int) = some (⟨H.length, 0, 1, 1, true⟩, H ++ [⟨[.int .i64 0], .rw, 1⟩]) := mk_ints (n := 1) (by omega)
    refine ⟨⟨H.length, 0, 1, 1, true⟩, H ++ [⟨ics (modM r.p [a] [d]), .rw, 1⟩], ?_, Go.Abs.Le.app _ _, IS.of_blk (l := modM r.p [a] [d]) (c := 1) app_get (by simp [modM])⟩
    rw [R_eq, e_sl02Mul, hn, hm]
    simp only [k1, k2, k6, cond_false, Option.bind_some, Nat.beq, cond_true, n_bool]
    have q1 := (hs.le l1).ldk (i := 0) (by simp) (fun n16 => ((ixA u 0 1).bind fun o17 => (rdB (H ++ [⟨[.int .i64 0], .rw, 1⟩]) u.b).bind fun c18 => (intAt .i64 c18 o17).bind fun n19 => cond (r.p == 0) none ((ixA ⟨H.length, 0, 1, 1, true⟩ 0 1).bind fun o20 => (putR (H ++ [⟨[.int .i64 0], .rw, 1⟩]) H.length o20 [.int .i64 (Int.tmod (IntKind.wrap .i64 (n16 * n19)) r.p)]).bind fun H21 => some (⟨1, [ssc ⟨H.length, 0, 1, 1, true⟩], H21⟩ : Out))))
    have q2 := (hu.le l1).ldk (i := 0) (by simp) (fun n19 => cond (r.p == 0) none ((ixA ⟨H.length, 0, 1, 1, true⟩ 0 1).bind fun o20 => (putR (H ++ [⟨[.int .i64 0], .rw, 1⟩]) H.length o20 [.int .i64 (Int.tmod (IntKind.wrap .i64 (a * n19)) r.p)]).bind fun H21 => some (⟨1, [ssc ⟨H.length, 0, 1, 1, true⟩], H21⟩ : Out)))
    refine q1.trans (q2.trans ?_)
    show cond (r.p == 0) none ((ixA ⟨H.length, 0, 1, 1, true⟩ 0 1).bind fun o20 => (putR (H ++ [⟨[.int .i64 0], .rw, 1⟩]) H.length o20 [.int .i64 (Int.tmod (IntKind.wrap .i64 (a * d)) r.p)]).bind fun H21 => some (⟨1, [ssc ⟨H.length, 0, 1, 1, true⟩], H21⟩ : Out)) = _
    rw [hp0, cond_false, hw2]
    rw [show ixA ⟨H.length, 0, 1, 1, true⟩ 0 1 = some 0 from rfl]
    simp only [Option.bind_some]
    rw [putR_one app_get (by simp), app_set]
    rfl
end Go.Abs
/- The sums and products of rings of vectors: polynomials, and numbers with a root of unity. -/
namespace Go.Abs
set_option linter.all false
set_option maxRecDepth 10000

def addP (p : Int) (x y : List Int) : List Int := List.zipWith (fun a b => (a + b).tmod p) x y
/-- One product of coefficients is added. -/
def mulE (r : Rg) (n k : Nat) (a b : Int) (o : List Int) : List Int :=
  if k < n then o.set k ((o.getD k 0 + a * b).tmod r.p) else if r.k = 8 then o.set (k - 4) ((o.getD (k - 4) 0 + (r.p - a) * b).tmod r.p) else o
def mulJ (r : Rg) (n : Nat) (a : Int) : List Int → Nat → List Int → List Int
  | [], _, o => o
  | b :: y, k, o => mulJ r n a y (k + 1) (mulE r n k a b o)
def mulO (r : Rg) (n : Nat) (y : List Int) : List Int → Nat → List Int → List Int
  | [], _, o => o
  | a :: x, i, o => mulO r n y x (i + 1) (mulJ r n a y i o)
def mulP (r : Rg) (x y : List Int) : List Int := mulO r (widthR r).toNat y x 0 (List.replicate (widthR r).toNat 0)
def inP (p : Int) (n : Nat) (x : List Int) : Prop := x.length = n ∧ ∀ v ∈ x, 0 ≤ v ∧ v < p
theorem inP.get {p : Int} {n : Nat} {x : List Int} (h : inP p n x) {k : Nat} (hk : k < n) : 0 ≤ x.getD k 0 ∧ x.getD k 0 < p := by
  have hk' : k < x.length := by rw [h.1]; exact hk
  rw [List.getD_eq_getElem?_getD, List.getElem?_eq_getElem hk']
  exact h.2 _ (List.getElem_mem hk')
theorem inP.set {p : Int} {n : Nat} {x : List Int} (h : inP p n x) (hp : 0 < p) (k : Nat) {v : Int} (hv : 0 ≤ v) : inP p n (x.set k (v.tmod p)) := by
  refine ⟨by rw [List.length_set]; exact h.1, fun w hw => ?_⟩
  rcases List.mem_or_eq_of_mem_set hw with hw | rfl
  · exact h.2 w hw
  · exact tmod_rng hv hp
theorem in_mulE {r : Rg} {n k : Nat} {a b : Int} {o : List Int} (h : inP r.p n o) (hp : 0 < r.p) (ha : 0 ≤ a ∧ a < r.p) (hb : 0 ≤ b ∧ b < r.p) (hk : r.k = 8 → n = 4 ∧ k < 8) : inP r.p n (mulE r n k a b o) := by
  have h1 : 0 ≤ a * b := Int.mul_nonneg ha.1 hb.1
  have h2 : 0 ≤ (r.p - a) * b := Int.mul_nonneg (by omega) hb.1
  unfold mulE
  split
  · rename_i hk
    exact h.set hp _ (by have := h.get hk; omega)
  · split
    · rename_i h1 h8
      have := hk h8
      exact h.set hp _ (by have := h.get (k := k - 4) (by omega); omega)
    · exact h
theorem in_mulJ {r : Rg} {n : Nat} {a : Int} (hp : 0 < r.p) (ha : 0 ≤ a ∧ a < r.p) : ∀ {y : List Int} {k : Nat} {o : List Int}, inP r.p n o → (∀ b ∈ y, 0 ≤ b ∧ b < r.p) → (r.k = 8 → n = 4 ∧ k + y.length ≤ 8) → inP r.p n (mulJ r n a y k o)
  | [], k, o, h, _, _ => h
  | b :: y, k, o, h, hy, hk => by
    simp only [mulJ]
    refine in_mulJ hp ha (in_mulE h hp ha (hy b List.mem_cons_self) fun h8 => ?_) (fun c hc => hy c (List.mem_cons_of_mem _ hc)) fun h8 => ?_ <;> have := hk h8 <;> simp at this <;> omega
theorem in_mulO {r : Rg} {n : Nat} {y : List Int} (hp : 0 < r.p) (hy : ∀ b ∈ y, 0 ≤ b ∧ b < r.p) : ∀ {x : List Int} {i : Nat} {o : List Int}, inP r.p n o → (∀ b ∈ x, 0 ≤ b ∧ b < r.p) → (r.k = 8 → n = 4 ∧ i + x.length ≤ 4 ∧ y.length ≤ 4) → inP r.p n (mulO r n y x i o)
  | [], i, o, h, _, _ => h
  | a :: x, i, o, h, hx, hk => by
    simp only [mulO]
    refine in_mulO hp hy (in_mulJ hp (hx a List.mem_cons_self) h hy fun h8 => ?_) (fun c hc => hx c (List.mem_cons_of_mem _ hc)) fun h8 => ?_ <;> have := hk h8 <;> simp at this <;> omega
structure VRg (r : Rg) (n : Nat) : Prop where
  k : r.k = 7 ∨ r.k = 8
  rg : ringB r = true
  lo : 2 ≤ r.p
  hi : r.p ≤ 1000003
  w : widthR r = (n : Int)
  n1 : 1 ≤ n
  n6 : n ≤ 6
  n4 : r.k = 8 → n = 4
theorem VRg.top {r : Rg} {n : Nat} (h : VRg r n) : topR r = r.p - 1 := by
  have := h.k; have := h.lo; have := h.hi
  unfold topR
  rw [if_neg (by omega), if_neg (by omega), if_neg (by omega), wrap_id] <;> omega
theorem VRg.ve {r : Rg} {n : Nat} (h : VRg r n) {x : List Int} : VE r x ↔ inP r.p n x := by
  unfold VE inP
  rw [h.w, h.top]
  constructor
  · rintro ⟨h1, h2⟩
    exact ⟨by omega, fun v hv => by have := h2 v hv; omega⟩
  · rintro ⟨h1, h2⟩
    exact ⟨by omega, fun v hv => by have := h2 v hv; omega⟩
theorem inP.rep {p : Int} (hp : 0 < p) (n : Nat) : inP p n (List.replicate n 0) := ⟨by simp, fun v hv => by rw [List.eq_of_mem_replicate hv]; omega⟩
theorem VRg.zero {r : Rg} {n : Nat} (h : VRg r n) : zeroR r = List.replicate n 0 := by
  unfold zeroR
  rw [h.w, Int.toNat_natCast, if_neg (by have := h.k; omega)]
  refine List.ext_getElem? fun i => ?_
  rw [List.getElem?_set]
  split
  · rename_i h0
    subst h0
    have := h.n1
    simp [List.getElem?_replicate] <;> omega
  · rfl
theorem addP_in {p : Int} {n : Nat} {x y : List Int} (hp : 0 < p) (hx : inP p n x) (hy : inP p n y) : inP p n (addP p x y) := by
  refine ⟨by unfold addP; rw [List.length_zipWith, hx.1, hy.1]; omega, fun v hv => ?_⟩
  obtain ⟨i, hi, rfl⟩ := List.getElem_of_mem hv
  unfold addP at hi ⊢
  rw [List.getElem_zipWith]
  rw [List.length_zipWith] at hi
  have a1 := hx.2 _ (List.getElem_mem (l := x) (n := i) (by omega))
  have a2 := hy.2 _ (List.getElem_mem (l := y) (n := i) (by omega))
  exact tmod_rng (by omega) hp
theorem VRg.alg {r : Rg} {n : Nat} (h : VRg r n) : AlgOk r (addP r.p) (mulP r) := by
  have := h.lo
  refine ⟨h.rg, ?_, fun {x y} hx hy => ?_, fun {x y} hx hy => ?_⟩
  · rw [h.zero]; exact h.ve.2 (inP.rep (by omega) n)
  · exact h.ve.2 (addP_in (by omega) (h.ve.1 hx) (h.ve.1 hy))
  · have hx := h.ve.1 hx
    have hy := h.ve.1 hy
    refine h.ve.2 ?_
    unfold mulP
    rw [h.w, Int.toNat_natCast]
    exact in_mulO (by omega) hy.2 (inP.rep (by omega) n) hx.2 fun h8 => by have := h.n4 h8; rw [hx.1, hy.1]; omega
theorem tm_add {o c p : Int} (ho : 0 ≤ o) (hc : 0 ≤ c) (hp : 0 < p) : (o + c.tmod p).tmod p = (o + c).tmod p := by
  have := tmod_rng hc hp
  rw [Int.tmod_eq_emod_of_nonneg (by omega), Int.tmod_eq_emod_of_nonneg hc, Int.tmod_eq_emod_of_nonneg (by omega), Int.add_emod, Int.emod_emod_of_dvd _ (Int.dvd_refl p), ← Int.add_emod]
theorem tm_sub {o a b p : Int} (ho : 0 ≤ o) (ha : 0 ≤ a) (hap : a < p) (hb : 0 ≤ b) : (o + p - (a * b).tmod p).tmod p = (o + (p - a) * b).tmod p := by
  have hc : 0 ≤ a * b := Int.mul_nonneg ha hb
  have hd : 0 ≤ (p - a) * b := Int.mul_nonneg (by omega) hb
  have h1 := tmod_rng hc (show 0 < p by omega)
  rw [Int.tmod_eq_emod_of_nonneg (show 0 ≤ o + p - (a * b).tmod p by omega), Int.tmod_eq_emod_of_nonneg hc, Int.tmod_eq_emod_of_nonneg (by omega)]
  have e : o + p - (a * b) % p = o + (p - a) * b + p * (1 - b + a * b / p) := by
    have h2 := Int.emod_def (a * b) p
    rw [Int.mul_add, Int.mul_sub, Int.mul_one, Int.sub_mul]
    generalize p * (a * b / p) = q at h2 ⊢
    generalize p * b = u at *
    generalize a * b = v at *
    omega
  rw [e, Int.add_mul_emod_self_left]
theorem clr_own {H : AH} {b n : Nat} {x : Bool} {z : List Int} (hb : H[b]? = some ⟨ics z, .rw, 1⟩) (hz : z.length = n) : clrB H ⟨b, 0, n, n, x⟩ [.int .i64 0] = some (H.set b ⟨ics (List.replicate n 0), .rw, 1⟩) := by
  unfold clrB
  have e : (List.replicate n [Sc.int .i64 0]).flatten = ics (List.replicate n 0) := by simp [List.flatten_replicate_singleton, List.map_replicate]
  rw [e, putR_ics hb (by simp; omega)]
  have : putL z 0 (List.replicate n 0) = List.replicate n 0 := by simp [putL, hz]
  rw [this]
/-- impl.mulCoefficients: one row -/
theorem c_imulCoefficients_1 {r : Rg} {n : Nat} (h : VRg r n) {b : Nat} {q : Bool} {s u : Sl} {x y : List Int} (hx : inP r.p n x) (hy : inP r.p n y) {i : Nat} (hi : i < n) :
    ∀ (k j : Nat), j + k = n → ∀ (H : AH) (o : List Int), H[b]? = some ⟨ics o, .rw, 1⟩ → inP r.p n o → IS H s x → IS H u y → s.b ≠ b → u.b ≠ b →
      R (.loop F.imulCoefficients 1) [ssc ⟨b, 0, n, n, q⟩, ssc s, ssc u, isc (i : Int), isc (n : Int), isc (j : Int), r.pv] H = some ⟨4, [], H.set b ⟨ics (mulJ r n (x.getD i 0) (y.drop j) (i + j) o), .rw, 1⟩⟩ := by
  have hlo := h.lo; have hhi := h.hi; have hn6 := h.n6
  intro k
  induction k with
  | zero =>
    intro j hj H o hb ho hs hu hsb hub
    obtain rfl : j = n := by omega
    rw [R_eq, e_imulCoefficients_1, lt_self, List.drop_eq_nil_of_le (by rw [hy.1]; exact Nat.le_refl _)]
    have : H.set b ⟨ics o, .rw, 1⟩ = H := by
      have := List.getElem?_eq_some_iff.1 hb
      obtain ⟨h1, h2⟩ := this
      rw [← h2, List.set_getElem_self]
    simp only [mulJ, cond_false]
    rw [this]
  | succ k ih =>
    intro j hj H o hb ho hs hu hsb hub
    have hlt : j < n := by omega
    have hxi : i < x.length := by rw [hx.1]; exact hi
    have hyj : j < y.length := by rw [hy.1]; exact hlt
    have a1 := hx.2 _ (List.getElem_mem hxi)
    have b1 := hy.2 _ (List.getElem_mem hyj)
    have hxd : x.getD i 0 = x[i] := by rw [List.getD_eq_getElem?_getD, List.getElem?_eq_getElem hxi]; rfl
    have hp0 : (r.p == 0) = false := by simp only [beq_eq_false_iff_ne, ne_eq]; omega
    have hm1 : 0 ≤ x[i] * y[j] := Int.mul_nonneg a1.1 b1.1
    have hm2 : x[i] * y[j] ≤ 1000003 * 1000003 := Int.mul_le_mul (by omega) (by omega) b1.1 (by omega)
    have hwm : IntKind.wrap .i64 (x[i] * y[j]) = x[i] * y[j] := by rw [wrap_id] <;> omega
    have hmr := tmod_rng hm1 (show 0 < r.p by omega)
    have hwk : IntKind.wrap .i64 ((i : Int) + (j : Int)) = ((i + j : Nat) : Int) := by rw [wrap_id] <;> omega
    have hod : IS H ⟨b, 0, n, n, q⟩ o := by have := IS.of_blk (c := n) (x := q) hb (by rw [ho.1]; exact Nat.le_refl _); rw [ho.1] at this; exact this
    have hbl : b < H.length := (List.getElem?_eq_some_iff.1 hb).1
    rw [List.drop_eq_getElem_cons hyj]
    simp only [mulJ]
    have nx : ∀ o', o' = mulE r n (i + j) x[i] y[j] o → R (.loop F.imulCoefficients 1) [ssc ⟨b, 0, n, n, q⟩, ssc s, ssc u, isc (i : Int), isc (n : Int), isc ((j + 1 : Nat) : Int), r.pv] (H.set b ⟨ics o', .rw, 1⟩) = some ⟨4, [], H.set b ⟨ics (mulJ r n (x.getD i 0) (y.drop (j + 1)) (i + j + 1) (mulE r n (i + j) (x.getD i 0) y[j] o)), .rw, 1⟩⟩ := by
      intro o' ho'
      have hin : inP r.p n o' := by
        rw [ho']
        exact in_mulE ho (by omega) a1 b1 fun h8 => by have := h.n4 h8; omega
      rw [ih (j + 1) (by omega) (H.set b ⟨ics o', .rw, 1⟩) o' (set_get hb) hin (hs.set fun _ => hsb) (hu.set fun _ => hub) hsb hub, set_set, ho', hxd]
      rfl
    rw [R_eq, e_imulCoefficients_1, lt_true hlt, w1 hlt (by omega), cond_true, hs.ldk hxi, hu.ldk hyj, hp0, cond_false, hwk, hwm]
    simp only
    by_cases hk : i + j < n
    · have hko : i + j < o.length := by rw [ho.1]; exact hk
      have o1 := ho.2 _ (List.getElem_mem hko)
      have hwo : IntKind.wrap .i64 (o[i + j] + (x[i] * y[j]).tmod r.p) = o[i + j] + (x[i] * y[j]).tmod r.p := by rw [wrap_id] <;> omega
      rw [decide_eq_true (show ((i + j : Nat) : Int) < (n : Int) by omega), cond_true, hod.ldk hko, put_own hb hk hko, hwo, tm_add o1.1 hm1 (by omega)]
      refine nx _ ?_
      unfold mulE
      rw [if_pos hk, List.getD_eq_getElem?_getD, List.getElem?_eq_getElem hko]
      rfl
    · rw [decide_eq_false (show ¬ ((i + j : Nat) : Int) < (n : Int) by omega), cond_false]
      rcases h.k with h7 | h8
      · have h8 : (r.k == 8) = false := by rw [h7]; rfl
        rw [h8, cond_false]
        have := nx o (by unfold mulE; rw [if_neg hk, if_neg (by omega)])
        have e : H.set b ⟨ics o, .rw, 1⟩ = H := by
          obtain ⟨h1, h2⟩ := List.getElem?_eq_some_iff.1 hb
          rw [← h2, List.set_getElem_self]
        rw [e] at this
        exact this
      · have hn4 := h.n4 h8
        have h8' : (r.k == 8) = true := by rw [h8]; rfl
        have hw4 : IntKind.wrap .i64 (((i + j : Nat) : Int) - 4) = ((i + j - 4 : Nat) : Int) := by rw [wrap_id] <;> omega
        have hk4 : i + j - 4 < n := by omega
        have hko : i + j - 4 < o.length := by rw [ho.1]; exact hk4
        have o1 := ho.2 _ (List.getElem_mem hko)
        have hwo1 : IntKind.wrap .i64 (o[i + j - 4] + r.p) = o[i + j - 4] + r.p := by rw [wrap_id] <;> omega
        have hwo : IntKind.wrap .i64 (o[i + j - 4] + r.p - (x[i] * y[j]).tmod r.p) = o[i + j - 4] + r.p - (x[i] * y[j]).tmod r.p := by rw [wrap_id] <;> omega
        rw [h8', cond_true, hw4, hod.ldk hko, put_own hb hk4 hko, hwo1, hwo, tm_sub o1.1 a1.1 a1.2 b1.1]
        refine nx _ ?_
        unfold mulE
        rw [if_neg hk, if_pos h8, List.getD_eq_getElem?_getD, List.getElem?_eq_getElem hko]
        rfl
/-- impl.mulCoefficients -/
theorem c_imulCoefficients {r : Rg} {n : Nat} (h : VRg r n) {H : AH} {b : Nat} {q : Bool} {s u : Sl} {z x y : List Int} (hx : inP r.p n x) (hy : inP r.p n y) (hz : z.length = n)
    (hb : H[b]? = some ⟨ics z, .rw, 1⟩) (hs : IS H s x) (hu : IS H u y) (hsb : s.b ≠ b) (hub : u.b ≠ b) :
    R (.fn F.imulCoefficients) [r.pv, ssc ⟨b, 0, n, n, q⟩, ssc s, ssc u] H = some ⟨1, [], H.set b ⟨ics (mulP r x y), .rw, 1⟩⟩ := by
  have hlo := h.lo; have hn6 := h.n6
  have loop : ∀ (k i : Nat), i + k = n → ∀ (G : AH) (o : List Int), G[b]? = some ⟨ics o, .rw, 1⟩ → inP r.p n o → IS G s x → IS G u y →
      R (.loop F.imulCoefficients 0) [ssc ⟨b, 0, n, n, q⟩, ssc s, ssc u, isc (n : Int), isc (i : Int), r.pv] G = some ⟨2, [], G.set b ⟨ics (mulO r n y (x.drop i) i o), .rw, 1⟩⟩ := by
    intro k
    induction k with
    | zero =>
      intro i hi G o hb ho hs hu
      obtain rfl : i = n := by omega
      rw [R_eq, e_imulCoefficients_0, lt_self, List.drop_eq_nil_of_le (by rw [hx.1]; exact Nat.le_refl _)]
      have : G.set b ⟨ics o, .rw, 1⟩ = G := by
        obtain ⟨h1, h2⟩ := List.getElem?_eq_some_iff.1 hb
        rw [← h2, List.set_getElem_self]
      simp only [mulO, cond_false]
      rw [this]
    | succ k ih =>
      intro i hi G o hb ho hs hu
      have hlt : i < n := by omega
      have hxi : i < x.length := by rw [hx.1]; exact hlt
      have hxd : x.getD i 0 = x[i] := by rw [List.getD_eq_getElem?_getD, List.getElem?_eq_getElem hxi]; rfl
      have hun : u.n = n := by rw [hu.n, hy.1]
      have e1 := c_imulCoefficients_1 (q := q) h hx hy hlt n 0 (by omega) G o hb ho hs hu hsb hub
      have e1 : R (.loop F.imulCoefficients 1) [ssc ⟨b, 0, n, n, q⟩, ssc s, ssc u, isc (i : Int), isc (n : Int), isc 0, r.pv] G = _ := e1
      rw [R_eq, e_imulCoefficients_0, lt_true hlt, w1 hlt (by omega), cond_true, hun, e1]
      simp only [Option.bind_some, Nat.beq, cond_true, List.drop_zero, Nat.add_zero]
      have hin : inP r.p n (mulJ r n (x.getD i 0) y i o) := in_mulJ (by omega) (hx.get hlt) ho hy.2 fun h8 => by have := h.n4 h8; rw [hy.1]; omega
      rw [ih (i + 1) (by omega) _ _ (set_get hb) hin (hs.set fun _ => hsb) (hu.set fun _ => hub), set_set, List.drop_eq_getElem_cons hxi]
      simp only [mulO, hxd]
  have e2 := loop n 0 (by omega) (H.set b ⟨ics (List.replicate n 0), .rw, 1⟩) _ (set_get hb) (inP.rep (by omega) n) (hs.set fun _ => hsb) (hu.set fun _ => hub)
  have e2 : R (.loop F.imulCoefficients 0) [ssc ⟨b, 0, n, n, q⟩, ssc s, ssc u, isc (n : Int), isc 0, r.pv] _ = _ := e2
  rw [R_eq, e_imulCoefficients, clr_own hb hz]
  have hsn : s.n = n := by rw [hs.n, hx.1]
  simp only [Option.bind_some, hsn]
  rw [e2, set_set]
  simp only [Option.bind_some, Nat.beq, cond_true, List.drop_zero]
  unfold mulP
  rw [h.w, Int.toNat_natCast]
/-- spec.l02Mul: one row -/
theorem c_sl02Mul_1 {r : Rg} {n : Nat} (h : VRg r n) {b : Nat} {u : Sl} {a : Int} {y : List Int} (ha : 0 ≤ a ∧ a < r.p) (hy : inP r.p n y) {i : Nat} (hi : i < n) :
    ∀ (k j : Nat), j + k = n → ∀ (H : AH) (o : List Int), H[b]? = some ⟨ics o, .rw, 1⟩ → inP r.p n o → IS H u y → u.b ≠ b →
      R (.loop F.sl02Mul 1) [ssc ⟨b, 0, n, n, true⟩, isc (i : Int), isc a, ssc u, isc (n : Int), isc (j : Int), r.pv] H = some ⟨5, [], H.set b ⟨ics (mulJ r n a (y.drop j) (i + j) o), .rw, 1⟩⟩ := by
  have hlo := h.lo; have hhi := h.hi; have hn6 := h.n6
  intro k
  induction k with
  | zero =>
    intro j hj H o hb ho hu hub
    obtain rfl : j = n := by omega
    rw [R_eq, e_sl02Mul_1, lt_self, List.drop_eq_nil_of_le (by rw [hy.1]; exact Nat.le_refl _)]
    have : H.set b ⟨ics o, .rw, 1⟩ = H := by
      obtain ⟨h1, h2⟩ := List.getElem?_eq_some_iff.1 hb
      rw [← h2, List.set_getElem_self]
    simp only [mulJ, cond_false]
    rw [this]
  | succ k ih =>
    intro j hj H o hb ho hu hub
    have hlt : j < n := by omega
    have hyj : j < y.length := by rw [hy.1]; exact hlt
    have b1 := hy.2 _ (List.getElem_mem hyj)
    have hp0 : (r.p == 0) = false := by simp only [beq_eq_false_iff_ne, ne_eq]; omega
    have hm1 : 0 ≤ a * y[j] := Int.mul_nonneg ha.1 b1.1
    have hm2 : a * y[j] ≤ 1000003 * 1000003 := Int.mul_le_mul (by omega) (by omega) b1.1 (by omega)
    have hwm : IntKind.wrap .i64 (a * y[j]) = a * y[j] := by rw [wrap_id] <;> omega
    have hd1 : 0 ≤ (r.p - a) * y[j] := Int.mul_nonneg (by omega) b1.1
    have hd2 : (r.p - a) * y[j] ≤ 1000003 * 1000003 := Int.mul_le_mul (by omega) (by omega) b1.1 (by omega)
    have hwd : IntKind.wrap .i64 ((r.p - a) * y[j]) = (r.p - a) * y[j] := by rw [wrap_id] <;> omega
    have hwpa : IntKind.wrap .i64 (r.p - a) = r.p - a := by rw [wrap_id] <;> omega
    have hwk : IntKind.wrap .i64 ((i : Int) + (j : Int)) = ((i + j : Nat) : Int) := by rw [wrap_id] <;> omega
    have hod : IS H ⟨b, 0, n, n, true⟩ o := by have := IS.of_blk (c := n) (x := true) hb (by rw [ho.1]; exact Nat.le_refl _); rw [ho.1] at this; exact this
    rw [List.drop_eq_getElem_cons hyj]
    simp only [mulJ]
    have nx : ∀ o', o' = mulE r n (i + j) a y[j] o → R (.loop F.sl02Mul 1) [ssc ⟨b, 0, n, n, true⟩, isc (i : Int), isc a, ssc u, isc (n : Int), isc ((j + 1 : Nat) : Int), r.pv] (H.set b ⟨ics o', .rw, 1⟩) = some ⟨5, [], H.set b ⟨ics (mulJ r n a (y.drop (j + 1)) (i + j + 1) (mulE r n (i + j) a y[j] o)), .rw, 1⟩⟩ := by
      intro o' ho'
      have hin : inP r.p n o' := by
        rw [ho']
        exact in_mulE ho (by omega) ha b1 fun h8 => by have := h.n4 h8; omega
      rw [ih (j + 1) (by omega) (H.set b ⟨ics o', .rw, 1⟩) o' (set_get hb) hin (hu.set fun _ => hub) hub, set_set, ho']
      rfl
    rw [R_eq, e_sl02Mul_1, lt_true hlt, w1 hlt (by omega), cond_true, hu.ldk hyj, hwk, hwm, hwpa, hwd, hp0]
    simp only [cond_false]
    by_cases hk : i + j < n
    · have hko : i + j < o.length := by rw [ho.1]; exact hk
      have o1 := ho.2 _ (List.getElem_mem hko)
      have hwo : IntKind.wrap .i64 (o[i + j] + a * y[j]) = o[i + j] + a * y[j] := by rw [wrap_id] <;> omega
      rw [decide_eq_true (show ((i + j : Nat) : Int) < (n : Int) by omega), cond_true, hod.ldk hko, put_own hb hk hko, hwo]
      refine nx _ ?_
      unfold mulE
      rw [if_pos hk, List.getD_eq_getElem?_getD, List.getElem?_eq_getElem hko]
      rfl
    · rw [decide_eq_false (show ¬ ((i + j : Nat) : Int) < (n : Int) by omega), cond_false]
      rcases h.k with h7 | h8
      · have h8 : (r.k == 8) = false := by rw [h7]; rfl
        rw [h8, cond_false]
        have := nx o (by unfold mulE; rw [if_neg hk, if_neg (by omega)])
        have e : H.set b ⟨ics o, .rw, 1⟩ = H := by
          obtain ⟨h1, h2⟩ := List.getElem?_eq_some_iff.1 hb
          rw [← h2, List.set_getElem_self]
        rw [e] at this
        exact this
      · have hn4 := h.n4 h8
        have h8' : (r.k == 8) = true := by rw [h8]; rfl
        have hw4 : IntKind.wrap .i64 (((i + j : Nat) : Int) - 4) = ((i + j - 4 : Nat) : Int) := by rw [wrap_id] <;> omega
        have hk4 : i + j - 4 < n := by omega
        have hko : i + j - 4 < o.length := by rw [ho.1]; exact hk4
        have o1 := ho.2 _ (List.getElem_mem hko)
        have hwo : IntKind.wrap .i64 (o[i + j - 4] + (r.p - a) * y[j]) = o[i + j - 4] + (r.p - a) * y[j] := by rw [wrap_id] <;> omega
        rw [h8', cond_true, hw4, hod.ldk hko, put_own hb hk4 hko, hwo]
        refine nx _ ?_
        unfold mulE
        rw [if_neg hk, if_pos h8, List.getD_eq_getElem?_getD, List.getElem?_eq_getElem hko]
        rfl
theorem VRg.ks {r : Rg} {n : Nat} (h : VRg r n) : (r.k == 1) = false ∧ (r.k == 2) = false ∧ (r.k == 3) = false ∧ (r.k == 4) = false ∧ (r.k == 5) = false ∧ (r.k == 6) = false := by
  rcases h.k with e | e <;> rw [e] <;> exact ⟨rfl, rfl, rfl, rfl, rfl, rfl⟩
/-- spec.l02Mul -/
theorem c_sl02Mul_v {r : Rg} {n : Nat} (h : VRg r n) {H : AH} {s u : Sl} {x y : List Int} (hs : IS H s x) (hu : IS H u y) (hx : inP r.p n x) (hy : inP r.p n y) :
    R (.fn F.sl02Mul) [r.pv, ssc s, ssc u] H = some ⟨1, [ssc ⟨H.length, 0, n, n, true⟩], H ++ [⟨ics (mulP r x y), .rw, 1⟩]⟩ := by
  have hlo := h.lo; have hn6 := h.n6; have hn1 := h.n1
  obtain ⟨k1, k2, k3, k4, k5, k6⟩ := h.ks
  have hsn : s.n = n := by rw [hs.n, hx.1]
  have hun : u.n = n := by rw [hu.n, hy.1]
  have hxn : x ≠ [] := fun e => by have := hx.1; rw [e] at this; simp at this; omega
  have hyn : y ≠ [] := fun e => by have := hy.1; rw [e] at this; simp at this; omega
  have hsl := hs.lt hxn
  have hul := hu.lt hyn
  have loop : ∀ (k i : Nat), i + k = n → ∀ (G : AH) (o : List Int), G[H.length]? = some ⟨ics o, .rw, 1⟩ → inP r.p n o → IS G s x → IS G u y →
      R (.loop F.sl02Mul 0) [ssc u, ssc ⟨H.length, 0, n, n, true⟩, ssc s, isc (n : Int), isc (i : Int), r.pv] G = some ⟨3, [], G.set H.length ⟨ics (mulO r n y (x.drop i) i o), .rw, 1⟩⟩ := by
    intro k
    induction k with
    | zero =>
      intro i hi G o hb ho hs hu
      obtain rfl : i = n := by omega
      rw [R_eq, e_sl02Mul_0, lt_self, List.drop_eq_nil_of_le (by rw [hx.1]; exact Nat.le_refl _)]
      have : G.set H.length ⟨ics o, .rw, 1⟩ = G := by
        obtain ⟨h1, h2⟩ := List.getElem?_eq_some_iff.1 hb
        rw [← h2, List.set_getElem_self]
      simp only [mulO, cond_false]
      rw [this]
    | succ k ih =>
      intro i hi G o hb ho hs hu
      have hlt : i < n := by omega
      have hxi : i < x.length := by rw [hx.1]; exact hlt
      have e1 := c_sl02Mul_1 (u := u) h (hx.2 _ (List.getElem_mem hxi)) hy hlt n 0 (by omega) G o hb ho hu (by omega)
      have e1 : R (.loop F.sl02Mul 1) [ssc ⟨H.length, 0, n, n, true⟩, isc (i : Int), isc x[i], ssc u, isc (n : Int), isc 0, r.pv] G = _ := e1
      rw [R_eq, e_sl02Mul_0, lt_true hlt, w1 hlt (by omega), cond_true, hs.ldk hxi, hun]
      rw [e1]
      simp only [Option.bind_some, Nat.beq, cond_true, List.drop_zero, Nat.add_zero]
      have hin : inP r.p n (mulJ r n x[i] y i o) := in_mulJ (by omega) (hx.2 _ (List.getElem_mem hxi)) ho hy.2 fun h8 => by have := h.n4 h8; rw [hy.1]; omega
      rw [ih (i + 1) (by omega) _ _ (set_get hb) hin (hs.set fun _ => by omega) (hu.set fun _ => by omega), set_set, List.drop_eq_getElem_cons hxi]
      simp only [mulO]
  have l1 := Go.Abs.Le.app H [⟨ics (List.replicate n 0), .rw, 1⟩]
  have e2 := loop n 0 (by omega) (H ++ [⟨ics (List.replicate n 0), .rw, 1⟩]) _ app_get (inP.rep (by omega) n) (hs.le l1) (hu.le l1)
  have e2 : R (.loop F.sl02Mul 0) [ssc u, ssc ⟨H.length, 0, n, n, true⟩, ssc s, isc (n : Int), isc 0, r.pv] _ = _ := e2
  rw [R_eq, e_sl02Mul, hsn, mk_ints (by omega)]
  simp only [k1, k2, k3, k4, k5, k6, cond_false, Option.bind_some, Nat.beq, cond_true, n_bool]
  rw [e2, app_set]
  simp only [Option.bind_some, Nat.beq, cond_true, List.drop_zero]
  unfold mulP
  rw [h.w, Int.toNat_natCast]
end Go.Abs
/- The sums of rings of vectors; what the contraction needs of these rings. -/
namespace Go.Abs
set_option linter.all false
set_option maxRecDepth 10000

theorem set_self {H : AH} {b : Nat} {k : Blk} (hb : H[b]? = some k) : H.set b k = H := by
  obtain ⟨h1, h2⟩ := List.getElem?_eq_some_iff.1 hb
  rw [← h2, List.set_getElem_self]
theorem drop_take_set {cs : List Int} {o n i : Nat} {v : Int} (hi : i < n) (hl : o + n ≤ cs.length) : ((cs.set (o + i) v).drop o).take n = ((cs.drop o).take n).set i v := by
  refine List.ext_getElem? fun j => ?_
  rw [List.getElem?_take, List.getElem?_set, List.length_take, List.length_drop, List.getElem?_take, List.getElem?_drop, List.getElem?_drop, List.getElem?_set]
  by_cases hj : j < n
  · simp only [hj, if_true]
    by_cases e : i = j
    · subst e
      rw [if_pos rfl, if_pos rfl, if_pos (by omega), if_pos (by omega)]
    · rw [if_neg (by omega), if_neg e]
  · simp only [hj, if_false]
    rw [if_neg (by omega)]
theorem putL_over {cs : List Int} {o n i : Nat} {v : Int} {x : List Int} (hx : x.length = n) (hi : i < n) (hl : o + n ≤ cs.length) : putL (cs.set (o + i) v) o x = putL cs o x := by
  refine List.ext_getElem? fun j => ?_
  rw [putL_get (by simp; omega), putL_get (by omega), List.getElem?_set]
  split
  · rw [if_neg (by omega)]
  · split
    · rfl
    · rw [if_neg (by omega)]
theorem addP_get {p : Int} {x y : List Int} {i : Nat} (hx : i < x.length) (hy : i < y.length) : (addP p x y)[i]? = some ((x[i] + y[i]).tmod p) := by
  unfold addP
  rw [List.getElem?_zipWith, List.getElem?_eq_getElem hx, List.getElem?_eq_getElem hy]
/-- impl.addInto's loop -/
theorem c_iaddInto_0 {r : Rg} {n : Nat} (h : VRg r n) {c s : Sl} {y : List Int} (hn : c.n = n) (hc : c.n ≤ c.c) (hy : inP r.p n y) (hsb : s.b ≠ c.b) :
    ∀ (k i : Nat), i + k = n → ∀ (H : AH) (cs x : List Int), H[c.b]? = some ⟨ics cs, .rw, 1⟩ → c.o + n ≤ cs.length → (cs.drop c.o).take n = x → (∀ v ∈ x, 0 ≤ v ∧ v < r.p) → IS H s y →
      R (.loop F.iaddInto 0) [ssc c, ssc s, isc (n : Int), isc (i : Int), r.pv] H = some ⟨3, [], H.set c.b ⟨ics (putL cs c.o (x.take i ++ (addP r.p x y).drop i)), .rw, 1⟩⟩ := by
  have hlo := h.lo; have hhi := h.hi; have hn6 := h.n6
  intro k
  induction k with
  | zero =>
    intro i hi H cs x hb hl hx hv hs
    obtain rfl : i = n := by omega
    have hxl : x.length = i := by rw [← hx]; simp; omega
    have e : putL cs c.o (x.take i ++ (addP r.p x y).drop i) = cs := by
      rw [List.drop_eq_nil_of_le (by unfold addP; rw [List.length_zipWith]; omega), List.append_nil, List.take_of_length_le (by omega)]
      refine List.ext_getElem? fun j => ?_
      rw [putL_get (by omega)]
      split
      · rfl
      · split
        · rename_i h1 h2
          rw [← hx, List.getElem?_take, if_pos (by omega), List.getElem?_drop]
          congr 1; omega
        · rfl
    rw [R_eq, e_iaddInto_0, lt_self, e, set_self hb]
    rfl
  | succ k ih =>
    intro i hi H cs x hb hl hx hv hs
    have hlt : i < n := by omega
    have hxl : x.length = n := by rw [← hx]; simp; omega
    have hxi : i < x.length := by omega
    have hyi : i < y.length := by rw [hy.1]; exact hlt
    have a1 := hv _ (List.getElem_mem hxi)
    have b1 := hy.2 _ (List.getElem_mem hyi)
    have hp0 : (r.p == 0) = false := by simp only [beq_eq_false_iff_ne, ne_eq]; omega
    have hic : IS H c x := by
      refine ⟨by rw [hn, hxl], hc, .inr ⟨ics cs, by unfold rdB; rw [hb]; rfl, fun j z hj => ?_⟩⟩
      rw [← hx, List.getElem?_take] at hj
      split at hj
      · rw [List.getElem?_drop] at hj
        simp [hj]
      · cases hj
    have hwa : IntKind.wrap .i64 (x[i] + y[i]) = x[i] + y[i] := by rw [wrap_id] <;> omega
    have hix : ixA c (i : Int) 1 = some (c.o + i) := by rw [ixA_nat (by omega)]; simp
    rw [R_eq, e_iaddInto_0, lt_true hlt, w1 hlt (by omega), cond_true, hic.ldk hxi, hs.ldk hyi, hp0, cond_false, hix]
    simp only [Option.bind_some]
    rw [hwa, putR_one hb (by simp; omega), ics_set]
    simp only [Option.bind_some]
    rw [ih (i + 1) (by omega) _ (cs.set (c.o + i) ((x[i] + y[i]).tmod r.p)) (x.set i ((x[i] + y[i]).tmod r.p)) (set_get hb) (by simp; omega) (by rw [drop_take_set hlt hl, hx]) (fun v hv' => by
      rcases List.mem_or_eq_of_mem_set hv' with hm | rfl
      · exact hv v hm
      · exact tmod_rng (by omega) (by omega)) (hs.set fun _ => hsb), set_set]
    have e1 : (addP r.p (x.set i ((x[i] + y[i]).tmod r.p)) y).drop (i + 1) = (addP r.p x y).drop (i + 1) := by
      refine List.ext_getElem? fun j => ?_
      rw [List.getElem?_drop, List.getElem?_drop]
      unfold addP
      rw [List.getElem?_zipWith, List.getElem?_zipWith, List.getElem?_set, if_neg (by omega)]
    have e2 : (addP r.p x y).drop i = (x[i] + y[i]).tmod r.p :: (addP r.p x y).drop (i + 1) := by
      have hal : i < (addP r.p x y).length := by unfold addP; rw [List.length_zipWith]; omega
      rw [List.drop_eq_getElem_cons hal]
      congr 1
      have := addP_get (p := r.p) hxi hyi
      rw [List.getElem?_eq_getElem hal] at this
      exact Option.some.inj this
    have e3 : (x.set i ((x[i] + y[i]).tmod r.p)).take (i + 1) = x.take i ++ [(x[i] + y[i]).tmod r.p] := by
      rw [take_snoc_any (by simp; omega)]
      simp [List.take_set_of_le (Nat.le_refl i)]
    rw [e1, e2, e3, putL_over (n := n) (by have := hy.1; simp [addP]; omega) hlt hl]
    simp
/-- spec.l02Add's loop -/
theorem c_sl02Add_0 {r : Rg} {n : Nat} (h : VRg r n) {H0 : AH} {s u : Sl} {x y : List Int} (hx : inP r.p n x) (hy : inP r.p n y) (hs : IS H0 s x) (hu : IS H0 u y) :
    ∀ (k i : Nat), i + k = n → ∀ (o : List Int), o.length = n → o.take i = (addP r.p x y).take i →
      R (.loop F.sl02Add 0) [ssc s, ssc u, ssc ⟨H0.length, 0, n, n, true⟩, isc (n : Int), isc (i : Int), r.pv] (H0 ++ [⟨ics o, .rw, 1⟩]) = some ⟨2, [], H0 ++ [⟨ics (addP r.p x y), .rw, 1⟩]⟩ := by
  have hlo := h.lo; have hhi := h.hi; have hn6 := h.n6
  obtain ⟨k1, k2, k3, k4, k5, k6⟩ := h.ks
  have hal : (addP r.p x y).length = n := by unfold addP; rw [List.length_zipWith, hx.1, hy.1]; omega
  intro k
  induction k with
  | zero =>
    intro i hi o ho he
    obtain rfl : i = n := by omega
    rw [List.take_of_length_le (by omega), List.take_of_length_le (by omega)] at he
    rw [R_eq, e_sl02Add_0, lt_self, he]
    rfl
  | succ k ih =>
    intro i hi o ho he
    have hlt : i < n := by omega
    have hxi : i < x.length := by rw [hx.1]; exact hlt
    have hyi : i < y.length := by rw [hy.1]; exact hlt
    have a1 := hx.2 _ (List.getElem_mem hxi)
    have b1 := hy.2 _ (List.getElem_mem hyi)
    have hp0 : (r.p == 0) = false := by simp only [beq_eq_false_iff_ne, ne_eq]; omega
    have l1 := Go.Abs.Le.app H0 [⟨ics o, .rw, 1⟩]
    have hwa : IntKind.wrap .i64 (x[i] + y[i]) = x[i] + y[i] := by rw [wrap_id] <;> omega
    rw [R_eq, e_sl02Add_0, lt_true hlt, w1 hlt (by omega), cond_true]
    simp only [k1, k2, k3, k4, k5, k6, cond_false, Option.bind_some, Nat.beq, cond_true, n_bool]
    rw [(hs.le l1).ldk hxi, (hu.le l1).ldk hyi, hp0, cond_false, hwa, put_own app_get hlt (by omega), app_set]
    refine ih (i + 1) (by omega) _ (by simpa using ho) ?_
    rw [take_snoc_any (by simp; omega), List.take_set_of_le (Nat.le_refl i), he, take_snoc_any (by omega)]
    congr 2
    rw [List.getElem_set_self]
    have hai : i < (addP r.p x y).length := by omega
    have := addP_get (p := r.p) hxi hyi
    rw [List.getElem?_eq_getElem hai] at this
    exact (Option.some.inj this).symm
/-- Polynomials, and numbers with a root of unity. -/
theorem VRg.rc {r : Rg} {n : Nat} (h : VRg r n) : RC r (addP r.p) (mulP r) := by
  have hlo := h.lo; have hhi := h.hi; have hn6 := h.n6; have hn1 := h.n1; have hw := h.w
  obtain ⟨k1, k2, k3, k4, k5, k6⟩ := h.ks
  refine ⟨h.alg, ?_, ?_, ?_, ?_⟩
  · intro H c s cs y hb hn hc hl hx hs hy hne
    rw [hw] at hn
    have hn1 : c.n = n := by omega
    rw [hn1] at hx hl ⊢
    have hy := h.ve.1 hy
    have hx := h.ve.1 hx
    have e1 := c_iaddInto_0 h hn1 hc hy hne n 0 (by omega) H cs _ hb hl rfl hx.2 hs
    have e1 : R (.loop F.iaddInto 0) [ssc c, ssc s, isc (n : Int), isc 0, r.pv] H = _ := e1
    rw [R_eq, e_iaddInto, hn1]
    simp only [k1, k2, k3, k4, k5, k6, cond_false, Option.bind_some, Nat.beq, cond_true, n_bool]
    rw [e1]
    simp
  · intro H b q s u z x y hb hz hs hu hx hy h1 h2
    rw [hw] at hz
    have hz : z.length = n := by omega
    have e := c_imulCoefficients (q := q) h (h.ve.1 hx) (h.ve.1 hy) hz hb hs hu h1 h2
    rw [R_eq, e_imulInto, hz]
    simp only [k1, k2, k3, k4, k5, k6, cond_false, Option.bind_some, Nat.beq, cond_true, n_bool]
    rw [e]
    rfl
  · intro H s u x y hs hu hx hy
    have hx := h.ve.1 hx
    have hy := h.ve.1 hy
    have hsn : s.n = n := by rw [hs.n, hx.1]
    have e1 := c_sl02Add_0 h hx hy hs hu n 0 (by omega) (List.replicate n 0) (by simp) rfl
    have e1 : R (.loop F.sl02Add 0) [ssc s, ssc u, ssc ⟨H.length, 0, n, n, true⟩, isc (n : Int), isc 0, r.pv] _ = _ := e1
    refine ⟨_, _, ?_, Go.Abs.Le.app _ _, IS.of_blk (b := H.length) (l := addP r.p x y) (c := n) (x := true) app_get (by simp [addP, hx.1, hy.1]), Nat.le_refl _⟩
    rw [R_eq, e_sl02Add, hsn, mk_ints (by omega)]
    simp only [Option.bind_some]
    rw [e1]
    have : (addP r.p x y).length = n := by simp [addP, hx.1, hy.1]
    rw [this]
    rfl
  · intro H s u x y hs hu hx hy
    have hx := h.ve.1 hx
    have hy := h.ve.1 hy
    have hmv := (h.ve.1 (h.alg.m (h.ve.2 hx) (h.ve.2 hy))).1
    refine ⟨_, _, c_sl02Mul_v h hs hu hx hy, Go.Abs.Le.app _ _, ?_⟩
    have := IS.of_blk (H := H ++ [⟨ics (mulP r x y), .rw, 1⟩]) (b := H.length) (l := mulP r x y) (c := n) (x := true) app_get (by omega)
    rw [hmv] at this
    exact this
/-- impl.rawMul -/
theorem c_irawMul {r : Rg} {A M : List Int → List Int → List Int} (hR : RC r A M) {H : AH} {s u : Sl} {x y : List Int} (hs : IS H s x) (hu : IS H u y) (hx : VE r x) (hy : VE r y) :
    R (.fn F.irawMul) [r.pv, ssc s, ssc u] H = some ⟨1, [ssc (rowAt H.length (M x y))], H ++ [⟨ics (M x y), .rw, 1⟩]⟩ := by
  have hwr := width_range hR.alg.rg
  have hxn : x ≠ [] := fun e => by have := hx.1; rw [e] at this; simp at this; omega
  have hyn : y ≠ [] := fun e => by have := hy.1; rw [e] at this; simp at this; omega
  have hsl := hs.lt hxn
  have hul := hu.lt hyn
  have vm := hR.alg.m hx hy
  have l1 := Go.Abs.Le.app H [⟨ics (List.replicate (widthR r).toNat 0), .rw, 1⟩]
  have e := hR.mulI (H := H ++ [⟨ics (List.replicate (widthR r).toNat 0), .rw, 1⟩]) (b := H.length) (q := true) (z := List.replicate (widthR r).toNat 0) app_get (by simp; omega) (hs.le l1) (hu.le l1) hx hy (by omega) (by omega)
  rw [List.length_replicate, app_set] at e
  have hl : (M x y).length = (widthR r).toNat := by have := vm.1; omega
  rw [R_eq, e_irawMul, c_irawWidth]
  simp only [Option.bind_some, one_int]
  rw [mk_width hR.alg.rg]
  simp only [Option.bind_some]
  rw [e]
  unfold rowAt
  rw [hl]
  rfl
end Go.Abs
/- Numbers with a root of unity: its powers turn a number's coefficients. -/
namespace Go.Abs
set_option linter.all false
set_option maxRecDepth 10000

theorem om_vr {p : Int} (hp : primeB p = true) (hp2 : p > 2) : VRg (omega p) 4 := by
  have h := hp
  simp only [primeB, Bool.and_eq_true, decide_eq_true_eq] at h
  refine ⟨.inr rfl, ?_, h.1.1, h.1.2, rfl, by omega, by omega, fun _ => rfl⟩
  show (if (8 : Int) = 1 then _ else if (8 : Int) = 2 then _ else if (8 : Int) = 3 ∨ (8 : Int) = 4 ∨ (8 : Int) = 5 then _ else if (8 : Int) = 6 then _ else if (8 : Int) = 7 then _ else if (8 : Int) = 8 then primeB p && decide (p > 2) && (0 : Int) == 0 else false) = true
  rw [if_neg (by omega), if_neg (by omega), if_neg (by omega), if_neg (by omega), if_neg (by omega), if_pos rfl, hp, decide_eq_true hp2]
  rfl
def neg1 (p d : Int) : Int := (p - d).tmod p
def rot1 (p : Int) : List Int → List Int
  | [a, b, c, d] => [neg1 p d, a, b, c]
  | x => x
def rotN (p : Int) : Nat → List Int → List Int
  | 0, x => x
  | k + 1, x => rot1 p (rotN p k x)
theorem in4 {p : Int} {x : List Int} (h : inP p 4 x) : ∃ a b c d, x = [a, b, c, d] ∧ (0 ≤ a ∧ a < p) ∧ (0 ≤ b ∧ b < p) ∧ (0 ≤ c ∧ c < p) ∧ (0 ≤ d ∧ d < p) := by
  obtain ⟨hl, hv⟩ := h
  match x, hl with
  | [a, b, c, d], _ => exact ⟨a, b, c, d, rfl, hv a (by simp), hv b (by simp), hv c (by simp), hv d (by simp)⟩
theorem mk4 {p a b c d : Int} (ha : 0 ≤ a ∧ a < p) (hb : 0 ≤ b ∧ b < p) (hc : 0 ≤ c ∧ c < p) (hd : 0 ≤ d ∧ d < p) : inP p 4 [a, b, c, d] := by
  refine ⟨rfl, fun v hv => ?_⟩
  simp at hv
  rcases hv with rfl | rfl | rfl | rfl <;> assumption
theorem neg1_rng {p d : Int} (hd : 0 ≤ d ∧ d < p) : 0 ≤ neg1 p d ∧ neg1 p d < p := tmod_rng (by omega) (by omega)
theorem tmod_id {a p : Int} (h : 0 ≤ a ∧ a < p) : a.tmod p = a := by rw [Int.tmod_eq_emod_of_nonneg h.1, Int.emod_eq_of_lt h.1 h.2]
theorem neg1_neg1 {p d : Int} (hd : 0 ≤ d ∧ d < p) : neg1 p (neg1 p d) = d := by
  unfold neg1
  by_cases h : d = 0
  · subst h
    have : (p - 0).tmod p = 0 := by rw [Int.sub_zero, Int.tmod_self]
    rw [this, Int.sub_zero, Int.tmod_self]
  · rw [tmod_id (show 0 ≤ p - d ∧ p - d < p by omega), tmod_id (by omega)]
    omega
theorem rot1_in {p : Int} {x : List Int} (h : inP p 4 x) : inP p 4 (rot1 p x) := by
  obtain ⟨a, b, c, d, rfl, ha, hb, hc, hd⟩ := in4 h
  exact mk4 (neg1_rng hd) ha hb hc
theorem rotN_in {p : Int} {x : List Int} (h : inP p 4 x) : ∀ k, inP p 4 (rotN p k x)
  | 0 => h
  | k + 1 => rot1_in (rotN_in h k)
theorem rotN_add (p : Int) (x : List Int) : ∀ a b, rotN p (a + b) x = rotN p a (rotN p b x)
  | 0, b => by simp [rotN]
  | a + 1, b => by rw [Nat.add_right_comm]; simp only [rotN]; rw [rotN_add p x a b]
theorem rot8 {p : Int} {x : List Int} (h : inP p 4 x) : rotN p 8 x = x := by
  obtain ⟨a, b, c, d, rfl, ha, hb, hc, hd⟩ := in4 h
  simp only [rotN, rot1, neg1_neg1 ha, neg1_neg1 hb, neg1_neg1 hc, neg1_neg1 hd]
theorem rot_mul8 {p : Int} {x : List Int} (h : inP p 4 x) : ∀ m k, rotN p (8 * m + k) x = rotN p k x
  | 0, k => by simp
  | m + 1, k => by
    rw [show 8 * (m + 1) + k = 8 + (8 * m + k) by omega, rotN_add, rot8 (rotN_in h _), rot_mul8 h m k]
theorem rot_mod {p : Int} {x : List Int} (h : inP p 4 x) (k : Nat) : rotN p (k % 8) x = rotN p k x := by
  have := rot_mul8 h (k / 8) (k % 8)
  rw [Nat.div_add_mod] at this
  exact this.symm
theorem rot_cong {p : Int} {x : List Int} (h : inP p 4 x) {j k : Nat} (e : j % 8 = k % 8) : rotN p j x = rotN p k x := by
  rw [← rot_mod h j, ← rot_mod h k, e]
/-- A product by nothing adds nothing. -/
theorem mulE_0 {r : Rg} {n k : Nat} {b : Int} {o : List Int} (h : inP r.p n o) (hb : 0 ≤ b) (hk : r.k = 8 → n = 4 ∧ k < 8) : mulE r n k 0 b o = o := by
  unfold mulE
  split
  · rename_i hk
    have := h.get hk
    have hkl : k < o.length := by rw [h.1]; exact hk
    rw [Int.zero_mul, Int.add_zero, tmod_id this, List.getD_eq_getElem?_getD, List.getElem?_eq_getElem hkl]
    exact List.set_getElem_self _
  · split
    · rename_i h1 h8
      have h4 := hk h8
      have hk4 : k - 4 < n := by omega
      have hkl : k - 4 < o.length := by rw [h.1]; exact hk4
      have := h.get hk4
      have hpb : 0 ≤ r.p * b := Int.mul_nonneg (by omega) hb
      have e : (o.getD (k - 4) 0 + (r.p - 0) * b).tmod r.p = o.getD (k - 4) 0 := by
        rw [Int.sub_zero, Int.tmod_eq_emod_of_nonneg (by omega), Int.add_mul_emod_self_left, Int.emod_eq_of_lt this.1 this.2]
      rw [e, List.getD_eq_getElem?_getD, List.getElem?_eq_getElem hkl]
      exact List.set_getElem_self _
    · rfl
theorem mulJ_0 {r : Rg} {n : Nat} : ∀ {y : List Int} {k : Nat} {o : List Int}, inP r.p n o → (∀ b ∈ y, 0 ≤ b) → (r.k = 8 → n = 4 ∧ k + y.length ≤ 8) → mulJ r n 0 y k o = o
  | [], _, _, _, _, _ => rfl
  | b :: y, k, o, h, hy, hk => by
    simp only [mulJ]
    rw [mulE_0 h (hy b List.mem_cons_self) fun h8 => by have := hk h8; simp at this; omega]
    exact mulJ_0 h (fun c hc => hy c (List.mem_cons_of_mem _ hc)) fun h8 => by have := hk h8; simp at this; omega
theorem tneg {p b : Int} (hb : 0 ≤ b ∧ b < p) : ((p - 1) * b).tmod p = neg1 p b := by
  have h1 : 0 ≤ (p - 1) * b := Int.mul_nonneg (by omega) hb.1
  unfold neg1
  rw [Int.tmod_eq_emod_of_nonneg h1, Int.tmod_eq_emod_of_nonneg (by omega)]
  have e : (p - 1) * b = p - b + p * (b - 1) := by
    rw [Int.sub_mul, Int.mul_sub, Int.one_mul, Int.mul_one]
    omega
  rw [e, Int.add_mul_emod_self_left]
theorem mul_zero {p : Int} (h : VRg (omega p) 4) {y : List Int} (hy : inP p 4 y) : mulP (omega p) zG y = zG := by
  have hlo : 2 ≤ p := h.lo
  have hz : inP (omega p).p 4 zG := inP.rep (show 0 < p by omega) 4
  have hy0 : ∀ b ∈ y, 0 ≤ b := fun b hb => (hy.2 b hb).1
  have hl := hy.1
  show mulO (omega p) 4 y [0, 0, 0, 0] 0 [0, 0, 0, 0] = _
  simp only [mulO]
  have hz : inP (omega p).p 4 [0, 0, 0, 0] := hz
  rw [mulJ_0 hz hy0 (by intro _; omega), mulJ_0 hz hy0 (by intro _; omega), mulJ_0 hz hy0 (by intro _; omega), mulJ_0 hz hy0 (by intro _; omega)]
  rfl
/-- A power of the root turns the coefficients. -/
theorem mul_root {p : Int} (h : VRg (omega p) 4) {y : List Int} (hy : inP p 4 y) {k : Nat} (hk : k < 8) : mulP (omega p) (rootE p k) y = rotN p k y := by
  have hlo : 2 ≤ p := h.lo
  obtain ⟨a, b, c, d, rfl, ha, hb, hc, hd⟩ := in4 hy
  have hz : inP (omega p).p 4 [0, 0, 0, 0] := inP.rep (show 0 < p by omega) 4
  have hy0 : ∀ x ∈ [a, b, c, d], 0 ≤ x := fun b hb => (hy.2 b hb).1
  have z1 : ∀ i, i ≤ 4 → mulJ (omega p) 4 0 [a, b, c, d] i [0, 0, 0, 0] = [0, 0, 0, 0] := fun i hi => mulJ_0 hz hy0 fun _ => ⟨rfl, by simp; omega⟩
  have z2 : ∀ (o : List Int) (i : Nat), inP p 4 o → i ≤ 4 → mulJ (omega p) 4 0 [a, b, c, d] i o = o := fun o i ho hi => mulJ_0 ho hy0 fun _ => ⟨rfl, by simp; omega⟩
  have op : (omega p).p = p := rfl
  have ok : (omega p).k = 8 := rfl
  have e1 : p - (p - 1) = 1 := by omega
  have na := neg1_rng ha; have nb := neg1_rng hb; have nc := neg1_rng hc; have nd := neg1_rng hd
  have hcase : k = 0 ∨ k = 1 ∨ k = 2 ∨ k = 3 ∨ k = 4 ∨ k = 5 ∨ k = 6 ∨ k = 7 := by omega
  rcases hcase with rfl | rfl | rfl | rfl | rfl | rfl | rfl | rfl
  · show mulO (omega p) 4 [a, b, c, d] [1, 0, 0, 0] 0 [0, 0, 0, 0] = _
    simp only [mulO]
    have : mulJ (omega p) 4 1 [a, b, c, d] 0 [0, 0, 0, 0] = [a, b, c, d] := by
      simp [mulJ, mulE, op, ok, tmod_id ha, tmod_id hb, tmod_id hc, tmod_id hd, tneg ha, tneg hb, tneg hc, tneg hd, e1]
    rw [this, z2 _ _ hy (by omega), z2 _ _ hy (by omega), z2 _ _ hy (by omega)]
    rfl
  · show mulO (omega p) 4 [a, b, c, d] [0, 1, 0, 0] 0 [0, 0, 0, 0] = _
    simp only [mulO]
    have : mulJ (omega p) 4 1 [a, b, c, d] 1 [0, 0, 0, 0] = [neg1 p d, a, b, c] := by
      simp [mulJ, mulE, op, ok, tmod_id ha, tmod_id hb, tmod_id hc, tmod_id hd, tneg ha, tneg hb, tneg hc, tneg hd, e1]
    have hi : inP p 4 [neg1 p d, a, b, c] := mk4 nd ha hb hc
    rw [z1 _ (by omega), this, z2 _ _ hi (by omega), z2 _ _ hi (by omega)]
    rfl
  · show mulO (omega p) 4 [a, b, c, d] [0, 0, 1, 0] 0 [0, 0, 0, 0] = _
    simp only [mulO]
    have : mulJ (omega p) 4 1 [a, b, c, d] 2 [0, 0, 0, 0] = [neg1 p c, neg1 p d, a, b] := by
      simp [mulJ, mulE, op, ok, tmod_id ha, tmod_id hb, tmod_id hc, tmod_id hd, tneg ha, tneg hb, tneg hc, tneg hd, e1]
    have hi : inP p 4 [neg1 p c, neg1 p d, a, b] := mk4 nc nd ha hb
    rw [z1 _ (by omega), z1 _ (by omega), this, z2 _ _ hi (by omega)]
    rfl
  · show mulO (omega p) 4 [a, b, c, d] [0, 0, 0, 1] 0 [0, 0, 0, 0] = _
    simp only [mulO]
    have : mulJ (omega p) 4 1 [a, b, c, d] 3 [0, 0, 0, 0] = [neg1 p b, neg1 p c, neg1 p d, a] := by
      simp [mulJ, mulE, op, ok, tmod_id ha, tmod_id hb, tmod_id hc, tmod_id hd, tneg ha, tneg hb, tneg hc, tneg hd, e1]
    rw [z1 _ (by omega), z1 _ (by omega), z1 _ (by omega), this]
    rfl
  · show mulO (omega p) 4 [a, b, c, d] [p - 1, 0, 0, 0] 0 [0, 0, 0, 0] = _
    simp only [mulO]
    have : mulJ (omega p) 4 (p - 1) [a, b, c, d] 0 [0, 0, 0, 0] = [neg1 p a, neg1 p b, neg1 p c, neg1 p d] := by
      simp [mulJ, mulE, op, ok, tmod_id ha, tmod_id hb, tmod_id hc, tmod_id hd, tneg ha, tneg hb, tneg hc, tneg hd, e1]
    have hi : inP p 4 [neg1 p a, neg1 p b, neg1 p c, neg1 p d] := mk4 na nb nc nd
    rw [this, z2 _ _ hi (by omega), z2 _ _ hi (by omega), z2 _ _ hi (by omega)]
    rfl
  · show mulO (omega p) 4 [a, b, c, d] [0, p - 1, 0, 0] 0 [0, 0, 0, 0] = _
    simp only [mulO]
    have : mulJ (omega p) 4 (p - 1) [a, b, c, d] 1 [0, 0, 0, 0] = [d, neg1 p a, neg1 p b, neg1 p c] := by
      simp [mulJ, mulE, op, ok, tmod_id ha, tmod_id hb, tmod_id hc, tmod_id hd, tneg ha, tneg hb, tneg hc, tneg hd, e1]
    have hi : inP p 4 [d, neg1 p a, neg1 p b, neg1 p c] := mk4 hd na nb nc
    rw [z1 _ (by omega), this, z2 _ _ hi (by omega), z2 _ _ hi (by omega)]
    simp only [rotN, rot1, neg1_neg1 hd]
  · show mulO (omega p) 4 [a, b, c, d] [0, 0, p - 1, 0] 0 [0, 0, 0, 0] = _
    simp only [mulO]
    have : mulJ (omega p) 4 (p - 1) [a, b, c, d] 2 [0, 0, 0, 0] = [c, d, neg1 p a, neg1 p b] := by
      simp [mulJ, mulE, op, ok, tmod_id ha, tmod_id hb, tmod_id hc, tmod_id hd, tneg ha, tneg hb, tneg hc, tneg hd, e1]
    have hi : inP p 4 [c, d, neg1 p a, neg1 p b] := mk4 hc hd na nb
    rw [z1 _ (by omega), z1 _ (by omega), this, z2 _ _ hi (by omega)]
    simp only [rotN, rot1, neg1_neg1 hd, neg1_neg1 hc]
  · show mulO (omega p) 4 [a, b, c, d] [0, 0, 0, p - 1] 0 [0, 0, 0, 0] = _
    simp only [mulO]
    have : mulJ (omega p) 4 (p - 1) [a, b, c, d] 3 [0, 0, 0, 0] = [b, c, d, neg1 p a] := by
      simp [mulJ, mulE, op, ok, tmod_id ha, tmod_id hb, tmod_id hc, tmod_id hd, tneg ha, tneg hb, tneg hc, tneg hd, e1]
    rw [z1 _ (by omega), z1 _ (by omega), z1 _ (by omega), this]
    simp only [rotN, rot1, neg1_neg1 hd, neg1_neg1 hc, neg1_neg1 hb]
theorem add_zero_l {p : Int} {x : List Int} (h : inP p 4 x) : addP p zG x = x := by
  obtain ⟨a, b, c, d, rfl, ha, hb, hc, hd⟩ := in4 h
  simp [addP, zG, tmod_id ha, tmod_id hb, tmod_id hc, tmod_id hd]
theorem add_zero_r {p : Int} {x : List Int} (h : inP p 4 x) : addP p x zG = x := by
  obtain ⟨a, b, c, d, rfl, ha, hb, hc, hd⟩ := in4 h
  simp [addP, zG, tmod_id ha, tmod_id hb, tmod_id hc, tmod_id hd]
theorem root_in {p : Int} (hp : 2 ≤ p) (k : Nat) : inP p 4 (rootE p k) := by
  have h0 : inP p 4 (List.replicate 4 0) := inP.rep (by omega) 4
  unfold rootE
  split
  · have := h0.set (by omega) k (v := 1) (by omega)
    rwa [tmod_id (by omega)] at this
  · have := h0.set (by omega) (k - 4) (v := p - 1) (by omega)
    rwa [tmod_id (by omega)] at this
theorem root_rot {p : Int} (h : VRg (omega p) 4) {k : Nat} (hk : k < 8) : rotN p k oG = rootE p k := by
  have hlo : 2 ≤ p := h.lo
  have n0 : neg1 p 0 = 0 := by unfold neg1; rw [Int.sub_zero, Int.tmod_self]
  have n1 : neg1 p 1 = p - 1 := by unfold neg1; rw [tmod_id (by omega)]
  have hcase : k = 0 ∨ k = 1 ∨ k = 2 ∨ k = 3 ∨ k = 4 ∨ k = 5 ∨ k = 6 ∨ k = 7 := by omega
  rcases hcase with rfl | rfl | rfl | rfl | rfl | rfl | rfl | rfl <;> simp [rotN, rot1, oG, rootE, n0, n1, List.replicate]
end Go.Abs
/- Contracts: axes that are joined and kept (impl), with their steps. -/
namespace Go.Abs
set_option linter.all false
set_option maxRecDepth 10000

/-- impl.productOf, where the product is small -/
theorem c_iproductOf2 {H : AH} {s : Sl} {l : List Int} (h : IS H s l) (hm : l.length ≤ 1000) (hd : ∀ d ∈ l, 1 ≤ d) (hp : prd l ≤ 1099511627776) : R (.fn F.iproductOf) [ssc s] H = some ⟨1, [isc (prd l)], H⟩ := by
  have loop : ∀ (k i : Nat), i + k = l.length → ∀ x : Int, 1 ≤ x → x * prd (l.drop i) ≤ 1099511627776 → R (.loop F.iproductOf 0) [isc x, ssc s, isc (l.length : Int), isc (i : Int)] H = some ⟨2, [isc (x * prd (l.drop i))], H⟩ := by
    intro k
    induction k with
    | zero =>
      intro i hi x _ _
      obtain rfl : i = l.length := by omega
      rw [R_eq, e_iproductOf_0, lt_self, List.drop_eq_nil_of_le (Nat.le_refl _)]
      simp [prd]
    | succ k ih =>
      intro i hi x h0 h1
      have h2 : i < l.length := by omega
      have hdi := hd l[i] (List.getElem_mem h2)
      have hpp := prd_pos (a := l.drop (i + 1)) fun d hx => hd d (List.mem_of_mem_drop hx)
      rw [List.drop_eq_getElem_cons h2] at h1 ⊢
      simp only [prd] at h1 ⊢
      rw [← Int.mul_assoc] at h1 ⊢
      have h3 : 1 * 1 ≤ x * l[i] := Int.mul_le_mul h0 hdi (by omega) (by omega)
      have h4 : x * l[i] * 1 ≤ x * l[i] * prd (l.drop (i + 1)) := Int.mul_le_mul_of_nonneg_left hpp (by omega)
      have w2 : IntKind.wrap .i64 (x * l[i]) = x * l[i] := by rw [wrap_id] <;> omega
      rw [R_eq, e_iproductOf_0, lt_true h2, w1 h2 (by omega), cond_true, h.ldk h2, w2, ih (i + 1) (by omega) _ (by omega) h1]
  have := loop l.length 0 (by omega) 1 (by omega) (by rw [List.drop_zero, Int.one_mul]; exact hp)
  have this : R (.loop F.iproductOf 0) [isc 1, ssc s, isc (l.length : Int), isc 0] H = _ := this
  rw [R_eq, e_iproductOf, h.n, this]
  simp only [List.drop_zero, Int.one_mul]
  rfl
end Go.Abs
/- Contracts: two tensors are contracted (impl): a product is added. -/
namespace Go.Abs
set_option linter.all false
set_option maxRecDepth 10000

theorem fr_apart {H0 H : AH} {p q : Row} {rs : List Row} (h : Fr H0 H (p :: rs)) (hq : q ∈ rs) (hp : p.2 ≠ []) (hq2 : q.2 ≠ []) : p.1.b ≠ q.1.b := by
  rcases (List.pairwise_cons.1 h.rows.apart).1 q hq with e | e | e
  · exact absurd e hp
  · exact absurd e hq2
  · exact e
theorem fr_below {H0 H : AH} {p : Row} {rs : List Row} (h : Fr H0 H rs) (hp : p ∈ rs) (hne : p.2 ≠ []) {s : Sl} {l : List Int} (hs : IS H0 s l) (hl : l ≠ []) : s.b ≠ p.1.b := fun e => by
  have h1 := hs.lt hl
  rcases (h.rows.own p hp).lo with h2 | h2
  · exact hne h2
  · omega
theorem flat_ne {w : Nat} {E : List (List Int)} (hu : Uni w E) (hw : 0 < w) (hE : 0 < E.length) : E.flatten ≠ [] := fun e => by
  have hl := uni_len hu
  rw [e] at hl
  have : 0 < E.length * w := Nat.mul_pos hE hw
  simp at hl; omega
theorem ve_uni {r : Rg} {w : Nat} (hw : widthR r = (w : Int)) {E : List (List Int)} (h : ∀ e ∈ E, VE r e) : Uni w E := fun e he => by
  have := (h e he).1
  omega
/-- The element of a tensor's data, as impl.rawElem cuts it out. -/
theorem cut_elem {r : Rg} {H : AH} {x y z : Sl} {t : Tn} {w : Nat} (hw : widthR r = (w : Int)) (hz : IS H z t.X) (ht : tensorB r t = true) {n : Nat} (hn : (n : Int) < prd t.D) :
    (R (.fn F.irawElem) [r.pv, tpv x y z, isc (n : Int)] H = some ⟨1, [ssc (partAt z w n)], H⟩) ∧ IS H (partAt z w n) (getE w t.X n) ∧ VE r (getE w t.X n) ∧ t.X ≠ [] := by
  have hT := tensor_ok ht
  obtain ⟨N, hN, hN1, hN2, hN3⟩ := hT.d.nat
  have hwr := width_range hT.rg
  have hl := hT.len
  rw [hw, hN, ← Int.natCast_mul] at hl
  have hl : t.X.length = N * w := by omega
  have h2 : (n + 1) * w ≤ N * w := Nat.mul_le_mul_right _ (by omega)
  have hNw : N * w ≤ 4096 * 6 := Nat.mul_le_mul hN2 (by omega)
  have e2 : (n + 1) * w = n * w + w := by rw [Nat.add_mul, Nat.one_mul]
  have hzc : t.X.length ≤ z.c := by have := hz.n; have := hz.c; omega
  refine ⟨c_irawElem' hw (by omega) (by omega) (by omega) (by omega), hz.part (by omega), ?_, fun e => ?_⟩
  · have := getE_ve ht hn
    rwa [hw, Int.toNat_natCast] at this
  · rw [e] at hl
    have : 0 < N * w := Nat.mul_pos (by omega) (by omega)
    simp at hl; omega
end Go.Abs
/- Contracts: a circuit's network (impl). -/
namespace Go.Abs
set_option linter.all false
set_option maxRecDepth 10000

/-- The value of a bit. -/
def bitK (k : Int) (i : Nat) : Int := (k / (2 ^ i : Nat)) % 2
theorem bit_eq {k : Int} (h0 : 0 ≤ k) (h1 : k ≤ 1099511627776) {i : Nat} (hi : i ≤ 40) : bitAnd .i64 (shlR .i64 k (i : Int)) 1 = bitK k i := by
  rw [shlR_nat h0 (by omega), bitAnd_one]
  · rfl
  · exact Int.ediv_nonneg h0 (by exact_mod_cast Nat.zero_le _)
  · have := Int.ediv_le_self (a := k) ((2 ^ i : Nat) : Int) h0
    omega

/-- One line of a gate: what is read, and what is written. -/
structure GS where
  u : Int
  L : List Int
  B : List Int
  A : List Int
/-- A number is written to a row of a frame. -/
theorem FrN.st {H0 H : AH} {o : Sl} {xo : List Tri} (xs : List Row) {ys : List Row} {s : Sl} {l : List Int} (h : FrN H0 H (xs ++ (s, l) :: ys) o xo) {y : Int} (h0 : 0 ≤ y) (hi : y < l.length) (v : Int) :
    ∃ H', (∀ {α : Type} (k : AH → Option α), ((ixA s y 1).bind fun o => (putR H s.b o [.int .i64 v]).bind k) = k H') ∧ FrN H0 H' (xs ++ (s, l.set y.toNat v) :: ys) o xo ∧ Mut H0.length H H' s l (l.set y.toNat v) := by
  have ho := h.own (s := s) (l := l) (by simp)
  have hne : l ≠ [] := fun e => by rw [e] at hi; simp at hi; omega
  have hm : Mut H0.length H (H.set s.b ⟨ics (l.set y.toNat v), .rw, 1⟩) s l (l.set y.toNat v) := Mut.set ho hne (by simp)
  refine ⟨_, fun k => ?_, h.mut xs hm (fun e => absurd e hne), hm⟩
  have := st_lab (n := l.length) (x := s.x) (ho.blk' hne) h0 (by omega) (Nat.le_refl _) v k
  rw [← ho.eta] at this
  exact this

end Go.Abs
/- Contracts: a matrix is applied to qubits of a state (impl). -/
namespace Go.Abs
set_option linter.all false
set_option maxRecDepth 10000

/-- impl.indexIn -/
theorem c_iindexIn_g {H : AH} {s : Sl} {D : List Int} (h : IS H s D) (hl : D.length ≤ 1048576) (hd : ∀ d ∈ D, 1 ≤ d) {n : Int} (h0 : 0 ≤ n) (h1 : n ≤ 4611686018427387904) :
    R (.fn F.iindexIn) [ssc s, isc n] H = some ⟨1, [ssc (rowAt H.length (idxF D n))], H ++ [⟨ics (idxF D n), .rw, 1⟩]⟩ := by
  have key : ∀ (k : Nat) (n : Int) (out : List Int), k ≤ D.length → out.length = D.length → 0 ≤ n → n ≤ 4611686018427387904 →
      R (.loop F.iindexIn 0) [ssc s, isc n, ssc ⟨H.length, 0, D.length, D.length, true⟩, isc ((k : Int) - 1)] (H ++ [⟨ics out, .rw, 1⟩]) = some ⟨2, [], H ++ [⟨ics (idxF (D.take k) n ++ out.drop k), .rw, 1⟩]⟩ := by
    intro k
    induction k with
    | zero =>
      intro n out hk ho h0 h1
      rw [R_eq, e_iindexIn_0, ge_false]
      simp [idxF, idxR]
    | succ k ih =>
      intro n out hk ho h0 h1
      have hlt : k < D.length := by omega
      have hdk := hd D[k] (List.getElem_mem hlt)
      have hnz : (D[k] == 0) = false := bf (by omega)
      have hq : 0 ≤ n / D[k] := Int.ediv_nonneg h0 (by omega)
      have hq2 : n / D[k] ≤ n := Int.ediv_le_self _ h0
      have e1 : IntKind.wrap .i64 (Int.tdiv n D[k]) = n / D[k] := by
        rw [Int.tdiv_eq_ediv_of_nonneg h0, wrap_id] <;> omega
      have e2 : Int.tmod n D[k] = n % D[k] := Int.tmod_eq_emod_of_nonneg h0
      rw [R_eq, e_iindexIn_0, ge_true, cond_true, down1, (h.le (Go.Abs.Le.app H _)).ldk hlt, hnz, cond_false, st_own0 app_get (by omega) (by omega), app_set, (h.le (Go.Abs.Le.app H _)).ldk hlt, hnz, cond_false, e1, wdown (by omega), e2]
      rw [ih (n / D[k]) (out.set k (n % D[k])) (by omega) (by simpa using ho) hq (by omega), take_snoc' hlt, idxF_snoc, drop_set_self (by omega)]
      simp
  rw [R_eq, e_iindexIn, h.n, mk_ints (by omega)]
  simp only [Option.bind_some]
  rw [wdown (by omega), key D.length n _ (Nat.le_refl _) (by simp) h0 h1]
  simp [idxF_len]
abbrev twos (q : Nat) : List Int := List.replicate q 2
theorem fits_twos : ∀ {q : Nat} {I : List Int}, fitsI (twos q) I ↔ I.length = q ∧ ∀ v ∈ I, 0 ≤ v ∧ v < 2
  | 0, [] => by simp [twos, fitsI]
  | 0, x :: I => by simp [twos, fitsI]
  | q + 1, [] => by simp [twos, fitsI, List.replicate_succ]
  | q + 1, x :: I => by
    have := fits_twos (q := q) (I := I)
    simp only [twos, List.replicate_succ, fitsI, List.length_cons, List.mem_cons, forall_eq_or_imp] at this ⊢
    rw [this]
    constructor
    · rintro ⟨a, b, c, d⟩; exact ⟨by omega, ⟨a, b⟩, d⟩
    · rintro ⟨a, ⟨b, c⟩, d⟩; exact ⟨b, c, by omega, d⟩
/-- The row that an index tells. -/
def rowF (I : List Int) : List Int → Int → Int
  | [], a => a
  | q :: Q, a => rowF I Q (a * 2 + I.getD q.toNat 0)
/-- An index with the bits of a column. -/
def setF (c : Int) (m : Nat) : List Int → Nat → List Int → List Int
  | [], _, I => I
  | q :: Q, i, I => setF c m Q (i + 1) (I.set q.toNat (bitK c (m - 1 - i)))
theorem bitK_rng (c : Int) (i : Nat) : 0 ≤ bitK c i ∧ bitK c i < 2 := by
  unfold bitK
  exact ⟨Int.emod_nonneg _ (by omega), Int.emod_lt_of_pos _ (by omega)⟩
theorem setF_fits {q : Nat} (c : Int) (m : Nat) : ∀ (Q : List Int) (i : Nat) (I : List Int), fitsI (twos q) I → fitsI (twos q) (setF c m Q i I)
  | [], _, _, h => h
  | x :: Q, i, I, h => by
    refine setF_fits c m Q (i + 1) _ (fits_twos.2 ?_)
    obtain ⟨h1, h2⟩ := fits_twos.1 h
    refine ⟨by simpa using h1, fun v hv => ?_⟩
    rcases List.mem_or_eq_of_mem_set hv with hv | rfl
    · exact h2 v hv
    · exact bitK_rng _ _
theorem rowF_rng {I : List Int} (hI : ∀ v ∈ I, 0 ≤ v ∧ v < 2) : ∀ (Q : List Int) (a : Int), (∀ x ∈ Q, 0 ≤ x ∧ x < I.length) → 0 ≤ a → 0 ≤ rowF I Q a ∧ rowF I Q a < (a + 1) * (2 ^ Q.length : Nat)
  | [], a, _, h => by simp [rowF]; omega
  | x :: Q, a, hQ, h => by
    have hx := hQ x List.mem_cons_self
    have hxl : x.toNat < I.length := by omega
    have hv := hI _ (List.getElem_mem hxl)
    have hd : I.getD x.toNat 0 = I[x.toNat] := by rw [List.getD_eq_getElem?_getD, List.getElem?_eq_getElem hxl]; rfl
    simp only [rowF, hd]
    obtain ⟨h1, h2⟩ := rowF_rng hI Q (a * 2 + I[x.toNat]) (fun y hy => hQ y (List.mem_cons_of_mem _ hy)) (by omega)
    refine ⟨h1, Int.lt_of_lt_of_le h2 ?_⟩
    have e : (a + 1) * ((2 ^ (x :: Q).length : Nat) : Int) = (a * 2 + 2) * ((2 ^ Q.length : Nat) : Int) := by
      rw [List.length_cons, Nat.pow_succ, Int.natCast_mul, ← Int.mul_assoc, Int.mul_right_comm, Int.add_mul]
      rfl
    rw [e]
    exact Int.mul_le_mul_of_nonneg_right (by omega) (Int.natCast_nonneg _)
/-- impl.applyMatrix: the row -/
theorem c_iapplyMatrix_1 {H : AH} {si sq : Sl} {I Q : List Int} (hI : IS H si I) (hQ : IS H sq Q) (hb : ∀ v ∈ I, 0 ≤ v ∧ v < 2) (hq : ∀ x ∈ Q, 0 ≤ x ∧ x < I.length) (hl : Q.length ≤ 5) :
    ∀ (k i : Nat), i + k = Q.length → ∀ a : Int, 0 ≤ a → a < ((2 ^ i : Nat) : Int) → R (.loop F.iapplyMatrix 1) [ssc si, isc a, ssc sq, isc (Q.length : Int), isc (i : Int)] H = some ⟨4, [isc (rowF I (Q.drop i) a)], H⟩ := by
  intro k
  induction k with
  | zero =>
    intro i hi a h0 h1
    obtain rfl : i = Q.length := by omega
    rw [R_eq, e_iapplyMatrix_1, lt_self, List.drop_eq_nil_of_le (Nat.le_refl _)]
    rfl
  | succ k ih =>
    intro i hi a h0 h1
    have hlt : i < Q.length := by omega
    have hx := hq _ (List.getElem_mem hlt)
    obtain ⟨x, hxe⟩ : ∃ x : Nat, Q[i] = (x : Int) := ⟨Q[i].toNat, by omega⟩
    have hxl : x < I.length := by omega
    have hv := hb _ (List.getElem_mem hxl)
    have hp : ((2 ^ i : Nat) : Int) ≤ 32 := by
      have : 2 ^ i ≤ 2 ^ 5 := Nat.pow_le_pow_right (by omega) (by omega)
      omega
    have hp2 : ((2 ^ (i + 1) : Nat) : Int) = ((2 ^ i : Nat) : Int) * 2 := by rw [Nat.pow_succ]; omega
    have hw1 : IntKind.wrap .i64 (a * 2) = a * 2 := by rw [wrap_id] <;> omega
    have hw2 : IntKind.wrap .i64 (a * 2 + I[x]) = a * 2 + I[x] := by rw [wrap_id] <;> omega
    rw [R_eq, e_iapplyMatrix_1, lt_true hlt, w1 hlt (by omega), cond_true, hQ.ldk hlt, hxe, hI.ldk hxl, hw1, hw2, ih (i + 1) (by omega) _ (by omega) (by omega)]
    rw [List.drop_eq_getElem_cons hlt]
    simp only [rowF, hxe, Int.toNat_natCast]
    rw [List.getD_eq_getElem?_getD, List.getElem?_eq_getElem hxl]
    rfl
/-- impl.applyMatrix: the index of a column -/
theorem c_iapplyMatrix_3 {H0 : AH} {si sq : Sl} {Q : List Int} {rs : List Row} {q : Nat} (hQ : IS H0 sq Q) (hq : ∀ x ∈ Q, 0 ≤ x ∧ x < (q : Int)) (hl : Q.length ≤ 5) {c : Int} (hc0 : 0 ≤ c) (hc : c ≤ 32) :
    ∀ (k i : Nat), i + k = Q.length → ∀ (H : AH) (I : List Int), Fr H0 H ((si, I) :: rs) → I.length = q →
      ∃ H', R (.loop F.iapplyMatrix 3) [ssc sq, ssc si, isc c, ssc sq, isc (Q.length : Int), isc (i : Int)] H = some ⟨8, [], H'⟩ ∧ Fr H0 H' ((si, setF c Q.length (Q.drop i) i I) :: rs) := by
  intro k
  induction k with
  | zero =>
    intro i hi H I hF hIl
    obtain rfl : i = Q.length := by omega
    refine ⟨H, by rw [R_eq, e_iapplyMatrix_3, lt_self]; rfl, ?_⟩
    rw [List.drop_eq_nil_of_le (Nat.le_refl _)]
    exact hF
  | succ k ih =>
    intro i hi H I hF hIl
    have hlt : i < Q.length := by omega
    have hx := hq _ (List.getElem_mem hlt)
    obtain ⟨x, hxe⟩ : ∃ x : Nat, Q[i] = (x : Int) := ⟨Q[i].toNat, by omega⟩
    have hxl : x < I.length := by omega
    have hIn : I ≠ [] := fun e => by rw [e] at hxl; simp at hxl
    have oI := hF.own (s := si) (l := I) (by simp)
    have hQs := (hQ.le hF.le)
    have hsn : sq.n = Q.length := hQ.n
    have hw1 : IntKind.wrap .i64 ((Q.length : Int) - 1) = (Q.length : Int) - 1 := by rw [wrap_id] <;> omega
    have hw2 : IntKind.wrap .i64 ((Q.length : Int) - 1 - (i : Int)) = ((Q.length - 1 - i : Nat) : Int) := by rw [wrap_id] <;> omega
    have hF' := Fr.mut [] hF (Mut.set (l' := I.set x (bitK c (Q.length - 1 - i))) oI hIn (by simp)) (fun e => absurd e hIn)
    obtain ⟨H', e, F'⟩ := ih (i + 1) (by omega) _ _ hF' (by simpa using hIl)
    refine ⟨H', ?_, ?_⟩
    · rw [R_eq, e_iapplyMatrix_3, lt_true hlt, w1 hlt (by omega), cond_true, hQs.ldk hlt, hsn, hw1, hw2, decide_eq_false (show ¬ ((Q.length - 1 - i : Nat) : Int) < 0 by omega), cond_false, hxe, bit_eq hc0 (by omega) (by omega)]
      have hp := put_own (n := I.length) (x := si.x) (oI.blk' hIn) hxl hxl (bitK c (Q.length - 1 - i)) (fun H39 => R (.loop F.iapplyMatrix 3) [ssc sq, ssc si, isc c, ssc sq, isc (Q.length : Int), isc ((i + 1 : Nat) : Int)] H39)
      rw [← oI.eta] at hp
      rw [hp]
      exact e
    · rw [List.drop_eq_getElem_cons hlt]
      simp only [setF, hxe, Int.toNat_natCast]
      exact F'
/-- The sum of a row's products. -/
def amC (A M : List Int → List Int → List Int) (ms : List (List Int)) (sz row : Nat) (Q D X : List Int) (w : Nat) : Nat → Nat → List Int → List Int → List Int
  | 0, _, _, acc => acc
  | k + 1, c, I, acc => amC A M ms sz row Q D X w k (c + 1) (setF (c : Int) Q.length Q 0 I) (A acc (M (ms.getD (row * sz + c) []) (getE w X (offF D (setF (c : Int) Q.length Q 0 I)).toNat)))
/-- impl.applyMatrix: the columns -/
theorem c_iapplyMatrix_2 {r : Rg} {A M : List Int → List Int → List Int} (hR : RC r A M) {w : Nat} (hw : widthR r = (w : Int)) {H0 : AH} {q : Nat} (hq5 : q ≤ 5) {T : Tn} (hT : tensorB r T = true) (hD : T.D = twos q) {ya yb yc : Sl} (hy : TS H0 ya yb yc T)
    {si sq sm a b cN : Sl} {Q : List Int} {ms : List (List Int)} {rs : List Row} (hQ : IS H0 sq Q) (hq : ∀ x ∈ Q, 0 ≤ x ∧ x < (q : Int)) (hl : Q.length ≤ 2) (hM : I2 H0 sm ms) (hms : ∀ m ∈ ms, VE r m) {sz row : Nat} (hsz : sz ≤ 4) (hrow : (row + 1) * sz ≤ ms.length) (hr4 : row ≤ 4) {n : Nat} :
    ∀ (k c : Nat), c + k = sz → ∀ (H : AH) (I : List Int) (E : List (List Int)), Fr H0 H ((si, I) :: (cN, E.flatten) :: rs) → fitsI (twos q) I → (hn : n < E.length) → E.length ≤ 4096 → (∀ e ∈ E, VE r e) →
      ∃ H' I', R (.loop F.iapplyMatrix 2) [ssc sq, ssc sm, isc (sz : Int), isc (n : Int), ssc si, isc (row : Int), isc (c : Int), tpv ya yb yc, r.pv, tpv a b cN] H = some ⟨6, [], H'⟩ ∧
        Fr H0 H' ((si, I') :: (cN, (E.set n (amC A M ms sz row Q (twos q) T.X w k c I E[n])).flatten) :: rs) ∧ VE r (amC A M ms sz row Q (twos q) T.X w k c I E[n]) := by
  have hwr := width_range hR.alg.rg
  have hTb := tensor_ok hT
  intro k
  induction k with
  | zero =>
    intro c hc H I E hF hI hn hE hv
    obtain rfl : c = sz := by omega
    refine ⟨H, I, by rw [R_eq, e_iapplyMatrix_2, lt_self]; rfl, ?_, hv _ (List.getElem_mem hn)⟩
    simp only [amC, List.set_getElem_self]
    exact hF
  | succ k ih =>
    intro c hc H I E hF hI hn hE hv
    have hlt : c < sz := by omega
    obtain ⟨H1, e1, F1⟩ := c_iapplyMatrix_3 (c := (c : Int)) hQ hq (by omega) (by omega) (by omega) Q.length 0 (by omega) H I hF (fits_twos.1 hI).1
    have e1 : R (.loop F.iapplyMatrix 3) [ssc sq, ssc si, isc (c : Int), ssc sq, isc (Q.length : Int), isc 0] H = _ := e1
    rw [List.drop_zero] at F1
    have hI' := setF_fits (q := q) (c : Int) Q.length Q 0 I hI
    have hrange := offF_range hI'
    have hp5 : prd (twos q) ≤ 32 := by
      rw [prd_twos]
      have : 2 ^ q ≤ 2 ^ 5 := Nat.pow_le_pow_right (by omega) hq5
      omega
    obtain ⟨o, ho⟩ : ∃ o : Nat, offF (twos q) (setF (c : Int) Q.length Q 0 I) = (o : Int) := ⟨_, (Int.toNat_of_nonneg hrange.1).symm⟩
    have e2 := c_ioffsetIn (hD ▸ hy.D.le F1.le) (F1.is (s := si) (l := setF (c : Int) Q.length Q 0 I) (by simp)) hI' (by simp; omega) (fun d hd => by rw [List.eq_of_mem_replicate hd]; omega) (by omega)
    rw [ho] at e2 hrange
    obtain ⟨e3, i3, v3, n3⟩ := cut_elem (x := ya) (y := yb) hw (hy.X.le F1.le) hT (n := o) (by rw [hD]; exact hrange.2)
    have hEu := ve_uni hw hv
    have hfl := uni_len hEu
    have hEne := flat_ne hEu (by omega) (by omega)
    have oC := F1.own (s := cN) (l := E.flatten) (by simp)
    have hNw : E.length * w ≤ 4096 * 6 := Nat.mul_le_mul hE (by omega)
    have hle3 : (n + 1) * w ≤ E.length * w := Nat.mul_le_mul_right _ hn
    have hcc := oC.c
    have e4 := c_irawElem' (r := r) (H := H1) (a := a) (b := b) (c := cN) (n := n) hw (by omega) (by omega) (by omega) (by omega)
    have hrc : row * sz + c < ms.length := by rw [Nat.add_mul, Nat.one_mul] at hrow; omega
    obtain ⟨sx, hsx, k5⟩ := (hM.le F1.le).ld hrc
    have hmb : sm.b < H1.length := by
      rcases hM.2.2 with e | ⟨cs, hcs, _⟩
      · rw [e] at hrc; simp at hrc
      · have h1 := F1.le.len
        unfold rdB at hcs
        cases hb : H0[sm.b]? with
        | none => rw [hb] at hcs; simp at hcs
        | some k => have := (List.getElem?_eq_some_iff.1 hb).1; omega
    have hmv := hms _ (List.getElem_mem hrc)
    have e6 := c_irawMul hR hsx i3 hmv v3
    have vM := hR.alg.m hmv v3
    have l2 := Go.Abs.Le.app H1 [⟨ics (M ms[row * sz + c] (getE w T.X o)), .rw, 1⟩]
    have F2 := F1.ext l2
    have oC2 := F2.own (s := cN) (l := E.flatten) (by simp)
    have hat := uni_at hEu hn
    have isM : IS (H1 ++ [⟨ics (M ms[row * sz + c] (getE w T.X o)), .rw, 1⟩]) (rowAt H1.length (M ms[row * sz + c] (getE w T.X o))) (M ms[row * sz + c] (getE w T.X o)) := IS.of_blk app_get (Nat.le_refl _)
    have e3n : (n + 1) * w = n * w + w := by rw [Nat.add_mul, Nat.one_mul]
    have a1 := hR.addI (c := partAt cN w n) (s := rowAt H1.length (M ms[row * sz + c] (getE w T.X o))) (oC2.blk' hEne) (by show ((w : Nat) : Int) = _; exact hw.symm) (by show w ≤ cN.c - n * w; omega) (by show cN.o + n * w + w ≤ _; rw [oC.o]; omega)
      (by
        show VE r ((E.flatten.drop (cN.o + n * w)).take w)
        rw [oC.o, Nat.zero_add, hat]
        exact hv _ (List.getElem_mem hn)) isM vM
      (fun e => by
        have e : H1.length = cN.b := e
        have := oC.lt hEne
        omega)
    have vA := hR.alg.a (hv _ (List.getElem_mem hn)) vM
    have hres : putL E.flatten (partAt cN w n).o (A ((E.flatten.drop (partAt cN w n).o).take (partAt cN w n).n) (M ms[row * sz + c] (getE w T.X o))) = (E.set n (A E[n] (M ms[row * sz + c] (getE w T.X o)))).flatten := by
      show putL E.flatten (cN.o + n * w) (A ((E.flatten.drop (cN.o + n * w)).take w) (M ms[row * sz + c] (getE w T.X o))) = _
      rw [oC.o, Nat.zero_add, hat, putL_flat hEu hn (by have := vA.1; omega)]
    rw [hres] at a1
    have hv' : ∀ e ∈ E.set n (A E[n] (M ms[row * sz + c] (getE w T.X o))), VE r e := fun e he => by
      rcases List.mem_or_eq_of_mem_set he with he | rfl
      · exact hv e he
      · exact vA
    have hlen2 : (E.set n (A E[n] (M ms[row * sz + c] (getE w T.X o)))).flatten.length = E.flatten.length := by
      rw [uni_len (ve_uni hw hv'), hfl, List.length_set]
    have F3 := Fr.mut [(si, setF (c : Int) Q.length Q 0 I)] (ys := rs) F2 (Mut.set oC2 hEne hlen2) (fun e => absurd e hEne)
    have F3 : Fr H0 _ ((si, setF (c : Int) Q.length Q 0 I) :: (cN, (E.set n (A E[n] (M ms[row * sz + c] (getE w T.X o)))).flatten) :: rs) := F3
    have hbb : (partAt cN w n).b = cN.b := rfl
    rw [hbb] at a1
    obtain ⟨H', I', e7, F7, v7⟩ := ih (c + 1) (by omega) _ _ _ F3 hI' (by simpa using hn) (by simpa using hE) hv'
    have hge : (ms.getD (row * sz + c) []) = ms[row * sz + c] := by rw [List.getD_eq_getElem?_getD, List.getElem?_eq_getElem hrc]; rfl
    have hgs : (E.set n (A E[n] (M ms[row * sz + c] (getE w T.X o))))[n]'(by simpa using hn) = A E[n] (M ms[row * sz + c] (getE w T.X o)) := List.getElem_set_self _
    rw [hgs] at F7 v7
    refine ⟨H', I', ?_, ?_, ?_⟩
    · have hws : IntKind.wrap .i64 ((row : Int) * (sz : Int)) = ((row * sz : Nat) : Int) := by
        have : row * sz ≤ 4 * 4 := Nat.mul_le_mul hr4 hsz
        rw [← Int.natCast_mul, wrap_id] <;> omega
      have hws2 : IntKind.wrap .i64 (((row * sz : Nat) : Int) + (c : Int)) = ((row * sz + c : Nat) : Int) := by
        have : row * sz ≤ 4 * 4 := Nat.mul_le_mul hr4 hsz
        rw [wrap_id] <;> omega
      rw [R_eq, e_iapplyMatrix_2, lt_true hlt, w1 hlt (by omega), cond_true, hQ.n, e1]
      simp only [Option.bind_some, Nat.beq, cond_true]
      rw [e2]
      simp only [Option.bind_some, one_int]
      rw [e3]
      simp only [Option.bind_some, one_sl]
      rw [e4]
      simp only [Option.bind_some, one_sl, decide_true, cond_true]
      rw [hws, hws2, decide_eq_true hmb]
      simp only [cond_true]
      rw [k5, e6]
      simp only [Option.bind_some, one_sl]
      rw [a1]
      simp only [Option.bind_some]
      exact e7
    · simp only [amC, ho, Int.toNat_natCast, hge]
      rw [List.set_set] at F7
      exact F7
    · simp only [amC, ho, Int.toNat_natCast, hge]
      exact v7
end Go.Abs
/- Contracts: a matrix is applied to qubits of a state (impl), all of it. -/
namespace Go.Abs
set_option linter.all false
set_option maxRecDepth 10000

/-- The element at a place after a matrix was applied. -/
def amE (r : Rg) (A M : List Int → List Int → List Int) (ms : List (List Int)) (sz : Nat) (Q D X : List Int) (n : Nat) : List Int :=
  amC A M ms sz (rowF (idxF D (n : Int)) Q 0).toNat Q D X (widthR r).toNat sz 0 (idxF D (n : Int)) (zeroR r)
def amF (r : Rg) (A M : List Int → List Int → List Int) (ms : List (List Int)) (sz : Nat) (Q D X : List Int) : List (List Int) := (List.range (prd D).toNat).map (amE r A M ms sz Q D X)
structure AmOk (r : Rg) (q : Nat) (Q : List Int) (ms : List (List Int)) (sz : Nat) : Prop where
  q5 : q ≤ 5
  hq : ∀ x ∈ Q, 0 ≤ x ∧ x < (q : Int)
  hl : Q.length ≤ 2
  hs : sz = 2 ^ Q.length
  ml : ms.length = sz * sz
  mv : ∀ m ∈ ms, VE r m
theorem c_iapplyMatrix_0 {r : Rg} {A M : List Int → List Int → List Int} (hR : RC r A M) {w : Nat} (hw : widthR r = (w : Int)) {q : Nat} {Q : List Int} {ms : List (List Int)} {sz : Nat} (hk : AmOk r q Q ms sz)
    {H0 : AH} {T : Tn} (hT : tensorB r T = true) (hD : T.D = twos q) {ya yb yc : Sl} (hy : TS H0 ya yb yc T) {sq sm a b cN : Sl} {rs : List Row} (hQ : IS H0 sq Q) (hM : I2 H0 sm ms) :
    ∀ (k n : Nat), n + k = 2 ^ q → ∀ (H : AH) (E : List (List Int)), Fr H0 H ((cN, E.flatten) :: rs) → E.length = 2 ^ q → (∀ e ∈ E, VE r e) → (∀ j, j < n → E[j]? = some (amE r A M ms sz Q (twos q) T.X j)) → (∀ j, n ≤ j → j < 2 ^ q → E[j]? = some (zeroR r)) →
      ∃ H', R (.loop F.iapplyMatrix 0) [ssc sq, ssc sm, isc (sz : Int), isc (n : Int), tpv ya yb yc, r.pv, tpv a b cN] H = some ⟨2, [], H'⟩ ∧ Fr H0 H' ((cN, (amF r A M ms sz Q (twos q) T.X).flatten) :: rs) := by
  have hsz4 : sz ≤ 4 := by
    rw [hk.hs]
    have : 2 ^ Q.length ≤ 2 ^ 2 := Nat.pow_le_pow_right (by omega) hk.hl
    omega
  have hp : prd (twos q) = ((2 ^ q : Nat) : Int) := prd_twos q
  have hq32 : 2 ^ q ≤ 32 := by
    have : 2 ^ q ≤ 2 ^ 5 := Nat.pow_le_pow_right (by omega) hk.q5
    omega
  have hge : ∀ d ∈ twos q, (1 : Int) ≤ d := fun d hd => by rw [List.eq_of_mem_replicate hd]; omega
  have hwt : (widthR r).toNat = w := by omega
  intro k
  induction k with
  | zero =>
    intro n hn H E hF hE hv hlo hhi
    have hEe : E = amF r A M ms sz Q (twos q) T.X := by
      refine List.ext_getElem? fun j => ?_
      unfold amF
      rw [hp, Int.toNat_natCast]
      by_cases hj : j < 2 ^ q
      · rw [hlo j (by omega), List.getElem?_map, List.getElem?_range hj]; rfl
      · rw [List.getElem?_eq_none (by omega), List.getElem?_eq_none (by simp; omega)]
    rw [hEe] at hF
    refine ⟨H, ?_, hF⟩
    rw [R_eq, e_iapplyMatrix_0, c_iproductOf2 (hD ▸ hy.D.le hF.le) (by simp; have := hk.q5; omega) hge (by rw [hp]; omega)]
    simp only [Option.bind_some, one_int]
    rw [hp, decide_eq_false (by omega), cond_false]
  | succ k ih =>
    intro n hn H E hF hE hv hlo hhi
    have hlt : n < 2 ^ q := by omega
    have hyD := hD ▸ hy.D.le hF.le
    have e1 := c_iindexIn_g (n := (n : Int)) hyD (by simp; have := hk.q5; omega) hge (by omega) (by omega)
    have F1 := hF.newN (new_app H (idxF (twos q) (n : Int)))
    have hfit : fitsI (twos q) (idxF (twos q) (n : Int)) := idxF_fits hge
    obtain ⟨hil, hib⟩ := fits_twos.1 hfit
    have e2 := c_iapplyMatrix_1 (F1.is (s := rowAt H.length (idxF (twos q) (n : Int))) (l := idxF (twos q) (n : Int)) (by simp)) (hQ.le F1.le) hib (by rw [hil]; exact hk.hq) (by have := hk.hl; omega) Q.length 0 (by omega) 0 (by omega) (by simp)
    have e2 : R (.loop F.iapplyMatrix 1) [ssc (rowAt H.length (idxF (twos q) (n : Int))), isc 0, ssc sq, isc (Q.length : Int), isc 0] _ = _ := e2
    rw [List.drop_zero] at e2
    have hrr := rowF_rng hib Q 0 (by rw [hil]; exact hk.hq) (by omega)
    obtain ⟨row, hrow⟩ : ∃ row : Nat, rowF (idxF (twos q) (n : Int)) Q 0 = (row : Int) := ⟨_, (Int.toNat_of_nonneg hrr.1).symm⟩
    rw [hrow] at e2 hrr
    have hrow2 : row < sz := by rw [hk.hs]; omega
    have hnE : n < E.length := by omega
    have hEn : E[n] = zeroR r := by
      have := hhi n (Nat.le_refl _) hlt
      rw [List.getElem?_eq_getElem hnE] at this
      exact Option.some.inj this
    obtain ⟨H2, I', e3, F2, v2⟩ := c_iapplyMatrix_2 (n := n) (row := row) hR hw hk.q5 hT hD hy (a := a) (b := b) hQ hk.hq hk.hl hM hk.mv hsz4 (by rw [hk.ml]; exact Nat.mul_le_mul_right _ (by omega)) (by omega) sz 0 (by omega) _ _ E F1 hfit hnE (by omega) hv
    have e3 : R (.loop F.iapplyMatrix 2) [ssc sq, ssc sm, isc (sz : Int), isc (n : Int), ssc (rowAt H.length (idxF (twos q) (n : Int))), isc (row : Int), isc 0, tpv ya yb yc, r.pv, tpv a b cN] _ = _ := e3
    have hae : amC A M ms sz row Q (twos q) T.X w sz 0 (idxF (twos q) (n : Int)) E[n] = amE r A M ms sz Q (twos q) T.X n := by
      unfold amE
      rw [hrow, Int.toNat_natCast, hwt, hEn]
    rw [hae] at F2 v2
    obtain ⟨H', e4, F4⟩ := ih (n + 1) (by omega) H2 _ (F2.sub (List.sublist_cons_self _ _)) (by simpa using hE) (fun e he => by
      rcases List.mem_or_eq_of_mem_set he with he | rfl
      · exact hv e he
      · exact v2) (fun j hj => by
      rw [List.getElem?_set]
      by_cases hjn : n = j
      · subst hjn; rw [if_pos rfl, if_pos hnE]
      · rw [if_neg hjn]; exact hlo j (by omega)) (fun j h1 h2 => by
      rw [List.getElem?_set, if_neg (by omega)]
      exact hhi j (by omega) h2)
    refine ⟨H', ?_, F4⟩
    rw [R_eq, e_iapplyMatrix_0, c_iproductOf2 hyD (by simp; have := hk.q5; omega) hge (by rw [hp]; omega)]
    simp only [Option.bind_some, one_int]
    rw [hp, decide_eq_true (by omega), cond_true, e1]
    simp only [Option.bind_some, one_sl]
    rw [hQ.n, e2]
    simp only [Option.bind_some, Nat.beq, cond_true]
    show (nthP [isc (row : Int)] 0).bind _ = _
    rw [show ∀ (K : PV → Option Out), (nthP [isc (row : Int)] 0).bind K = K (isc (row : Int)) from fun _ => rfl]
    rw [show ∀ (K : Sc → Option Out), (isc (row : Int)).sc?.bind K = K (.int .i64 (row : Int)) from fun _ => rfl]
    rw [show ∀ (K : Int → Option Out), (intAt .i64 [.int .i64 (row : Int)] 0).bind K = K (row : Int) from fun _ => rfl]
    rw [e3]
    simp only [Option.bind_some, Nat.beq, cond_true]
    rw [w1 (n := 2 ^ q) hlt (by omega)]
    exact e4
/-- impl.applyMatrix -/
theorem c_iapplyMatrix {p : Int} {A M : List Int → List Int → List Int} (hR : RC (omega p) A M) {q : Nat} {Q : List Int} {ms : List (List Int)} {sz : Nat} (hk : AmOk (omega p) q Q ms sz)
    {H : AH} {T : Tn} (hT : tensorB (omega p) T = true) (hD : T.D = twos q) {ya yb yc : Sl} (hy : TS H ya yb yc T) {sq sm : Sl} (hQ : IS H sq Q) (hM : I2 H sm ms) :
    ∃ a b c H', R (.fn F.iapplyMatrix) [isc p, tpv ya yb yc, ssc sq, ssc sm] H = some ⟨1, [tpv a b c], H'⟩ ∧ NewT H H' a b c ⟨T.L, T.D, (amF (omega p) A M ms sz Q (twos q) T.X).flatten⟩ := by
  have hTb := tensor_ok hT
  obtain ⟨z, H1, e1, n1⟩ := c_irawZero hR.alg.rg H
  have hzl : (zeroR (omega p)).length = 4 := by rw [zeroR_len]; rfl
  obtain ⟨a, b, c, H2, e2, n2⟩ := c_ifillTensor (r := omega p) (w := 4) (hy.L.le n1.le) (hy.D.le n1.le) n1.own.is (by have := tensor_dims hT; omega) hTb.d (by omega) (by omega) hzl
  have hp : prd (twos q) = ((2 ^ q : Nat) : Int) := prd_twos q
  rw [hD, hp, Int.toNat_natCast] at n2
  have F0 := (Fr.of n1.le).newT n2
  have F0 : Fr H H2 ((a, T.L) :: (b, twos q) :: (c, (List.replicate (2 ^ q) (zeroR (omega p))).flatten) :: []) := F0
  have F1 : Fr H H2 ((c, (List.replicate (2 ^ q) (zeroR (omega p))).flatten) :: (a, T.L) :: (b, twos q) :: []) := F0.perm (List.perm_append_comm (l₂ := [(a, T.L), (b, twos q)]) (l₁ := [(c, (List.replicate (2 ^ q) (zeroR (omega p))).flatten)]))
  obtain ⟨H', e3, F3⟩ := c_iapplyMatrix_0 hR (w := 4) rfl hk hT hD hy (a := a) (b := b) hQ hM (2 ^ q) 0 (by omega) H2 _ F1 (by simp) (fun e he => by rw [List.eq_of_mem_replicate he]; exact hR.alg.z) (fun j hj => by omega) (fun j _ hj => by rw [List.getElem?_replicate, if_pos hj])
  have e3 : R (.loop F.iapplyMatrix 0) [ssc sq, ssc sm, isc (sz : Int), isc 0, tpv ya yb yc, (omega p).pv, tpv a b c] H2 = _ := e3
  have F4 : Fr H H' ((a, T.L) :: (b, twos q) :: (c, (amF (omega p) A M ms sz Q (twos q) T.X).flatten) :: []) := F3.perm (List.perm_append_comm (l₂ := [(c, (amF (omega p) A M ms sz Q (twos q) T.X).flatten)]) (l₁ := [(a, T.L), (b, twos q)]))
  refine ⟨a, b, c, H', ?_, ?_⟩
  · have hsh : shlL .i64 1 (sq.n : Int) = (sz : Int) := by rw [hQ.n, shlL_one (by have := hk.hl; omega), hk.hs]
    rw [R_eq, e_iapplyMatrix, c_iomegaRing]
    simp only [Option.bind_some]
    show (oneP [(omega p).pv]).bind _ = _
    rw [o_iii, e1]
    simp only [Option.bind_some, one_sl]
    rw [e2]
    simp only [Option.bind_some]
    rw [o_sss, decide_eq_false (show ¬ (sq.n : Int) < 0 by omega), cond_false, hsh, e3]
    rfl
  · rw [hD]
    exact ⟨F4.le, F4.rows⟩
end Go.Abs
/- Contracts: two tensors are contracted (impl), the call. -/
namespace Go.Abs
set_option linter.all false
set_option maxRecDepth 10000

end Go.Abs
/- Contracts: two tensors are contracted (spec): steps of axes, sums, the next index. -/
namespace Go.Abs
set_option linter.all false
set_option maxRecDepth 10000

end Go.Abs
/- Contracts: two tensors are contracted (spec), the call; whether they fit. -/
namespace Go.Abs
set_option linter.all false
set_option maxRecDepth 10000

/-- The element of a tensor's data, as spec.l05Get copies it. -/
theorem get_elem {r : Rg} {H : AH} {x y z : Sl} {t : Tn} {w : Nat} (hw : widthR r = (w : Int)) (hz : IS H z t.X) (ht : tensorB r t = true) {n : Nat} (hn : (n : Int) < prd t.D) :
    ∃ s' H', R (.fn F.sl05Get) [r.pv, tpv x y z, isc (n : Int)] H = some ⟨1, [ssc s'], H'⟩ ∧ Go.Abs.Le H H' ∧ IS H' s' (getE w t.X n) ∧ VE r (getE w t.X n) := by
  have hT := tensor_ok ht
  obtain ⟨N, hN, hN1, hN2, hN3⟩ := hT.d.nat
  have hwr := width_range hT.rg
  have hl := hT.len
  rw [hw, hN, ← Int.natCast_mul] at hl
  have hl : t.X.length = N * w := by omega
  have h2 : (n + 1) * w ≤ N * w := Nat.mul_le_mul_right _ (by omega)
  have hNw : N * w ≤ 4096 * 6 := Nat.mul_le_mul hN2 (by omega)
  have e2 : (n + 1) * w = n * w + w := by rw [Nat.add_mul, Nat.one_mul]
  obtain ⟨s', H', e, l, o⟩ := c_sl05Get (a := x) (b := y) hz hw (by omega) (by omega) (n := n) (by omega) (by omega) (by omega)
  refine ⟨s', H', e, l, o.is, ?_⟩
  have := getE_ve ht hn
  rwa [hw, Int.toNat_natCast] at this
end Go.Abs
/- Contracts: states, operators, powers (both). -/
namespace Go.Abs
set_option linter.all false
set_option maxRecDepth 10000

abbrev iota (q : Nat) : List Int := (List.range q).map fun i : Nat => (i : Int)
abbrev nil3 : PV := tpv ⟨0, 0, 0, 0, true⟩ ⟨0, 0, 0, 0, true⟩ ⟨0, 0, 0, 0, true⟩
def stateB (p : Int) (q : Nat) (t : Tn) : Bool := tensorB (omega p) t && (decide (1 ≤ q) && decide (q ≤ 5)) && (t.L == iota q) && (t.D == twos q)
def pauliB (q : Nat) (x z s : Int) : Bool := (decide (1 ≤ q) && decide (q ≤ 5)) && inB x 0 (((2 ^ q : Nat) : Int) - 1) && inB z 0 (((2 ^ q : Nat) : Int) - 1) && inB s 0 1
/-- impl.stateOk -/
theorem c_istateOk {p : Int} {q : Nat} {H : AH} {a b c : Sl} {t : Tn} (h : TS H a b c t) (hq : q ≤ 1048576) : ∃ H', R (.fn F.istateOk) [isc p, isc (q : Int), tpv a b c] H = some ⟨1, [bsc (stateB p q t)], H'⟩ ∧ Go.Abs.Le H H' := by
  rw [R_eq, e_istateOk, c_iomegaRing]
  simp only [Option.bind_some]
  rw [show ∀ (K : PV → Option Out), (oneP [(omega p).pv]).bind K = K (omega p).pv from fun _ => rfl]
  show ∃ H', ((R (.fn F.iTensorOk) [(omega p).pv, tpv a b c] H).bind fun r7 => _) = _ ∧ _
  rw [c_iTensorOk _ h]
  unfold stateB
  simp only [Option.bind_some, one_bool]
  cases ht : tensorB (omega p) t with
  | false => exact ⟨H, rfl, Go.Abs.Le.refl _⟩
  | true =>
    have hd := tensor_dims ht
    simp only [cond_true, Bool.true_and]
    by_cases h1 : 1 ≤ q
    · rw [decide_eq_true h1, decide_eq_true (show (q : Int) ≥ 1 by omega), cond_true, Bool.true_and]
      by_cases h5 : q ≤ 5
      · rw [decide_eq_true h5, decide_eq_true (show (q : Int) ≤ 5 by omega), cond_true, Bool.true_and, c_ifirstLabels q hq]
        simp only [Option.bind_some, one_sl]
        have l1 := Go.Abs.Le.app H [⟨ics (iota q), .rw, 1⟩]
        have i1 : IS (H ++ [⟨ics (iota q), .rw, 1⟩]) (rowAt H.length (iota q)) (iota q) := IS.of_blk app_get (Nat.le_refl _)
        have e2 := c_iequalInts (h.L.le l1) i1 (by omega)
        rw [e2]
        simp only [Option.bind_some, one_bool]
        cases hL : t.L == iota q with
        | false => exact ⟨_, rfl, l1⟩
        | true =>
          simp only [cond_true, Bool.true_and]
          rw [c_itwos q hq]
          simp only [Option.bind_some, one_sl]
          have l2 := Go.Abs.Le.app (H ++ [⟨ics (iota q), .rw, 1⟩]) [⟨ics (twos q), .rw, 1⟩]
          have i2 : IS ((H ++ [⟨ics (iota q), .rw, 1⟩]) ++ [⟨ics (twos q), .rw, 1⟩]) (rowAt (H ++ [(⟨ics (iota q), .rw, 1⟩ : Blk)]).length (twos q)) (twos q) := IS.of_blk app_get (Nat.le_refl _)
          have e3 := c_iequalInts (h.D.le (l1.trans l2)) i2 (by omega)
          rw [e3]
          exact ⟨_, rfl, l1.trans l2⟩
      · rw [decide_eq_false h5, decide_eq_false (show ¬ (q : Int) ≤ 5 by omega)]
        exact ⟨H, rfl, Go.Abs.Le.refl _⟩
    · rw [decide_eq_false h1, decide_eq_false (show ¬ (q : Int) ≥ 1 by omega)]
      exact ⟨H, rfl, Go.Abs.Le.refl _⟩
theorem top_q {q : Nat} (h : q ≤ 5) : IntKind.wrap .i64 (shlL .i64 1 (q : Int) - 1) = ((2 ^ q : Nat) : Int) - 1 := by
  have h1 : 2 ^ q ≤ 2 ^ 5 := Nat.pow_le_pow_right (by omega) h
  rw [shlL_one (by omega)]
  generalize 2 ^ q = m at h1 ⊢
  rw [wrap_id] <;> omega
theorem inB_ge {a b c : Int} : inB a b c = (decide (a ≥ b) && decide (a ≤ c)) := rfl
/-- impl.PauliOk -/
theorem c_iPauliOk {q : Nat} {x z s : Int} {H : AH} : R (.fn F.iPauliOk) [isc (q : Int), .agg [.int .i64 x, .int .i64 z, .int .i64 s]] H = some ⟨1, [bsc (pauliB q x z s)], H⟩ := by
  rw [R_eq, e_iPauliOk]
  unfold pauliB
  by_cases h1 : 1 ≤ q
  · rw [decide_eq_false (show ¬ (q : Int) < 1 by omega), decide_eq_true h1]
    by_cases h5 : q ≤ 5
    · rw [decide_eq_false (show ¬ (q : Int) > 5 by omega), decide_eq_true h5, decide_eq_false (show ¬ (q : Int) < 0 by omega), top_q h5]
      simp only [cond_false, Bool.true_and, inB_ge]
      cases decide (x ≥ 0) <;> cases decide (x ≤ ((2 ^ q : Nat) : Int) - 1) <;> cases decide (z ≥ 0) <;> cases decide (z ≤ ((2 ^ q : Nat) : Int) - 1) <;> try rfl
      simp only [cond_true, Bool.true_and]
      by_cases s0 : s = 0
      · subst s0; rfl
      · have e0 : (s == 0) = false := bf s0
        rw [e0, cond_false]
        by_cases s1 : s = 1
        · subst s1; rfl
        · rw [bf s1]
          by_cases g : s ≥ 0
          · rw [decide_eq_true g, decide_eq_false (show ¬ s ≤ 1 by omega)]; rfl
          · rw [decide_eq_false g]; rfl
    · rw [decide_eq_true (show (q : Int) > 5 by omega), decide_eq_false h5]; rfl
  · rw [decide_eq_true (show (q : Int) < 1 by omega), decide_eq_false h1]; rfl
theorem in15 (q : Nat) : inB (q : Int) 1 5 = (decide (1 ≤ q) && decide (q ≤ 5)) := by
  unfold inB
  by_cases h1 : 1 ≤ q <;> by_cases h5 : q ≤ 5
  · rw [decide_eq_true h1, decide_eq_true h5, decide_eq_true (show (q : Int) ≥ 1 by omega), decide_eq_true (show (q : Int) ≤ 5 by omega)]
  · rw [decide_eq_false h5, decide_eq_false (show ¬ (q : Int) ≤ 5 by omega), Bool.and_false, Bool.and_false]
  · rw [decide_eq_false h1, decide_eq_false (show ¬ (q : Int) ≥ 1 by omega), Bool.false_and, Bool.false_and]
  · rw [decide_eq_false h1, decide_eq_false (show ¬ (q : Int) ≥ 1 by omega), Bool.false_and, Bool.false_and]
/-- spec.PauliOk -/
theorem c_sPauliOk {q : Nat} {x z s : Int} {H : AH} : R (.fn F.sPauliOk) [isc (q : Int), .agg [.int .i64 x, .int .i64 z, .int .i64 s]] H = some ⟨1, [bsc (pauliB q x z s)], H⟩ := by
  rw [R_eq, e_sPauliOk, c_sl01In, in15]
  unfold pauliB
  simp only [Option.bind_some, one_bool]
  cases hq : decide (1 ≤ q) && decide (q ≤ 5) with
  | false => rfl
  | true =>
    have h5 : q ≤ 5 := by simp only [Bool.and_eq_true, decide_eq_true_eq] at hq; exact hq.2
    rw [cond_true, decide_eq_false (show ¬ (q : Int) < 0 by omega), cond_false, top_q h5, c_sl01In]
    simp only [Option.bind_some, one_bool, Bool.true_and]
    cases inB x 0 (((2 ^ q : Nat) : Int) - 1) with
    | false => rfl
    | true =>
      simp only [cond_true, cond_false, Bool.true_and]
      rw [c_sl01In]
      simp only [Option.bind_some, one_bool]
      cases inB z 0 (((2 ^ q : Nat) : Int) - 1) with
      | false => rfl
      | true =>
        simp only [cond_true, Bool.true_and]
        rw [c_sl01In]
        rfl
/-- spec.l05Offset -/
theorem c_sl05Offset {H : AH} {s u : Sl} {D I : List Int} (h : IS H s D) (k : IS H u I) (hf : fitsI D I) (hl : D.length ≤ 1048576) (hd : ∀ d ∈ D, 1 ≤ d) (hp : prd D ≤ 4611686018427387904) :
    R (.fn F.sl05Offset) [ssc s, ssc u] H = some ⟨1, [isc (offF D I)], H⟩ := by
  have hlen := fits_len hf
  have key : ∀ (j i : Nat), i + j = D.length → R (.loop F.sl05Offset 0) [ssc u, isc (offF (D.take i) (I.take i)), ssc s, isc (D.length : Int), isc (i : Int)] H = some ⟨2, [isc (offF D I)], H⟩ := by
    intro j
    induction j with
    | zero =>
      intro i hi
      obtain rfl : i = D.length := by omega
      rw [List.take_of_length_le (by omega), List.take_of_length_le (by omega), R_eq, e_sl05Offset_0, lt_self]; rfl
    | succ j ih =>
      intro i hi
      have h1 : i < D.length := by omega
      have h2 : i < I.length := by omega
      have hr := offF_range (take_fits hf (i + 1))
      rw [take_snoc' h1, take_snoc' h2, offF_snoc] at hr
      have hpl := prd_take_le hd (i + 1)
      rw [take_snoc' h1] at hpl
      have hr0 := (offF_range (take_fits hf i)).1
      have hm : 0 ≤ offF (D.take i) (I.take i) * D[i] := Int.mul_nonneg hr0 (by have := hd D[i] (List.getElem_mem h1); omega)
      have hx := fits_get hf i h1 h2
      rw [R_eq, e_sl05Offset_0, lt_true h1, w1 h1 (by omega), cond_true, h.ldk h1, k.ldk h2]
      have e1 : IntKind.wrap .i64 (offF (D.take i) (I.take i) * D[i]) = offF (D.take i) (I.take i) * D[i] := by rw [wrap_id] <;> omega
      have e2 : IntKind.wrap .i64 (offF (D.take i) (I.take i) * D[i] + I[i]) = offF (D.take (i + 1)) (I.take (i + 1)) := by
        rw [take_snoc' h1, take_snoc' h2, offF_snoc, wrap_id] <;> omega
      rw [e1, e2]
      exact ih (i + 1) (by omega)
  have := key D.length 0 (by omega)
  have this : R (.loop F.sl05Offset 0) [ssc u, isc 0, ssc s, isc (D.length : Int), isc 0] H = some ⟨2, [isc (offF D I)], H⟩ := this
  rw [R_eq, e_sl05Offset, h.n, this]
  rfl
/-- spec.l02Elem -/
theorem c_sl02Elem {r : Rg} (hr : ringB r = true) {H : AH} {s : Sl} {x : List Int} (h : IS H s x) (hl : x.length ≤ 1048576) : R (.fn F.sl02Elem) [r.pv, ssc s] H = some ⟨1, [bsc ((x.all fun v => inB v 0 (topR r)) && ((x.length : Int) == widthR r))], H⟩ := by
  have h60 : r.k = 6 → 0 ≤ r.n := fun e => by have := ring6 hr e; omega
  have := loop_allB (F := fun i : Nat => R (.loop F.sl02Elem 0) [ssc s, isc (x.length : Int), isc (i : Int), r.pv] H) (l := x) (fun v => inB v 0 (topR r)) (some ⟨2, [], H⟩) (some ⟨1, [bsc false], H⟩)
    (by rw [R_eq, e_sl02Elem_0, lt_self]; rfl) (fun i hi => by
      rw [R_eq, e_sl02Elem_0, lt_true hi, w1 hi (by omega), cond_true, h.ldk hi]
      rw [show R (.fn F.sl02Top) [.agg [.int .i64 r.k, .int .i64 r.p, .int .i64 r.n]] H = _ from c_sl02Top r h60 H]
      simp only [Option.bind_some, one_int]
      rw [c_sl01In]
      simp only [Option.bind_some, one_bool]
      cases inB x[i] 0 (topR r) <;> rfl)
  have this : R (.loop F.sl02Elem 0) [ssc s, isc (x.length : Int), isc 0, r.pv] H = _ := this
  rw [R_eq, e_sl02Elem, h.n, this]
  cases x.all fun v => inB v 0 (topR r) with
  | false => rfl
  | true =>
    simp only [cond_true, Option.bind_some, Nat.beq, cond_false]
    rw [show R (.fn F.sl02Width) [.agg [.int .i64 r.k, .int .i64 r.p, .int .i64 r.n]] H = _ from c_sl02Width r H]
    simp only [Option.bind_some, one_int, Bool.true_and]
theorem ve_all {r : Rg} {x : List Int} (h : VE r x) : ((x.all fun v => inB v 0 (topR r)) && ((x.length : Int) == widthR r)) = true := by
  have h1 : (x.all fun v => inB v 0 (topR r)) = true := List.all_eq_true.2 fun v hv => by
    have := h.2 v hv
    unfold inB
    rw [decide_eq_true (show v ≥ 0 by omega), decide_eq_true this.2]; rfl
  rw [h1, h.1]; simp
theorem inP.get1 {p : Int} (h : 2 ≤ p) : inP p 4 oG := root_in h 0
/-- spec.PowElem, of the root -/
theorem c_sPowElem {p : Int} (hv : VRg (omega p) 4) {H : AH} {s : Sl} (h : IS H s (rootE p 1)) {n : Nat} (hn : n ≤ 1000) :
    ∃ s' H', R (.fn F.sPowElem) [(omega p).pv, ssc s, isc (n : Int)] H = some ⟨1, [ssc s'], H'⟩ ∧ Go.Abs.Le H H' ∧ IS H' s' (rootE p (n % 8)) := by
  have hlo : 2 ≤ p := hv.lo
  have hr1 : VE (omega p) (rootE p 1) := hv.ve.2 (root_in hlo 1)
  have loop : ∀ (k j : Nat), j + k ≤ 1000 → ∀ (G : AH) (u : Sl), Go.Abs.Le H G → IS G u (rootE p (j % 8)) →
      ∃ u' G', R (.loop F.sPowElem 0) [ssc s, isc (k : Int), ssc u, (omega p).pv] G = some ⟨2, [ssc u'], G'⟩ ∧ Go.Abs.Le H G' ∧ IS G' u' (rootE p ((j + k) % 8)) := by
    intro k
    induction k with
    | zero =>
      intro j hj G u hl hu
      exact ⟨u, G, by rw [R_eq, e_sPowElem_0]; rfl, hl, by simpa using hu⟩
    | succ k ih =>
      intro j hj G u hl hu
      have e1 := c_sl02Mul_v hv hu (h.le hl) (root_in hlo _) (root_in hlo 1)
      have hm : mulP (omega p) (rootE p (j % 8)) (rootE p 1) = rootE p ((j + 1) % 8) := by
        rw [mul_root hv (root_in hlo 1) (Nat.mod_lt _ (by omega)), ← root_rot hv (show 1 < 8 by omega), ← rotN_add, rot_cong (inP.get1 hlo) (show (j % 8 + 1) % 8 = ((j + 1) % 8) % 8 by omega), root_rot hv (Nat.mod_lt _ (by omega))]
      rw [hm] at e1
      have l1 := Go.Abs.Le.app G [⟨ics (rootE p ((j + 1) % 8)), .rw, 1⟩]
      have i1 : IS (G ++ [⟨ics (rootE p ((j + 1) % 8)), .rw, 1⟩]) ⟨G.length, 0, 4, 4, true⟩ (rootE p ((j + 1) % 8)) := by
        have := IS.of_blk (H := G ++ [⟨ics (rootE p ((j + 1) % 8)), .rw, 1⟩]) (b := G.length) (l := rootE p ((j + 1) % 8)) (c := 4) (x := true) app_get (by rw [rootE_len]; omega)
        rw [rootE_len] at this
        exact this
      obtain ⟨u', G', e2, l2, i2⟩ := ih (j + 1) (by omega) _ _ (hl.trans l1) i1
      refine ⟨u', G', ?_, l2, by rw [show j + (k + 1) = j + 1 + k by omega]; exact i2⟩
      rw [R_eq, e_sPowElem_0, decide_eq_true (show ((k + 1 : Nat) : Int) > 0 by omega), cond_true, e1]
      simp only [Option.bind_some, one_sl]
      have hw : IntKind.wrap .i64 (((k + 1 : Nat) : Int) - 1) = (k : Int) := by rw [wrap_id] <;> omega
      rw [hw]
      exact e2
  have e1 : R (.fn F.sElemOk) [(omega p).pv, ssc s] H = some ⟨1, [bsc true], H⟩ := by
    rw [R_eq, e_sElemOk]
    rw [show R (.fn F.sRingOk) [.agg [.int .i64 (omega p).k, .int .i64 (omega p).p, .int .i64 (omega p).n]] H = _ from c_sRingOk (omega p) H, hv.rg]
    simp only [Option.bind_some, one_bool, cond_true]
    rw [show R (.fn F.sl02Elem) [.agg [.int .i64 (omega p).k, .int .i64 (omega p).p, .int .i64 (omega p).n], .sc (.sl s)] H = _ from c_sl02Elem hv.rg h (by rw [rootE_len]; omega), ve_all hr1]
    rfl
  obtain ⟨u, H1, e2, n2⟩ := c_sl02One hv.rg H
  have ho : oneR (omega p) = rootE p (0 % 8) := rfl
  rw [ho] at n2
  obtain ⟨u', G', e3, l3, i3⟩ := loop n 0 (by omega) H1 u n2.le n2.own.is
  rw [Nat.zero_add] at i3
  refine ⟨u', G', ?_, l3, i3⟩
  rw [R_eq, e_sPowElem]
  rw [show R (.fn F.sElemOk) [.agg [.int .i64 (omega p).k, .int .i64 (omega p).p, .int .i64 (omega p).n], .sc (.sl s)] H = _ from e1]
  simp only [Option.bind_some, one_bool, Bool.not_true, cond_false]
  have hin : inB (n : Int) 0 1000 = true := by unfold inB; rw [decide_eq_true (show (n : Int) ≥ 0 by omega), decide_eq_true (show (n : Int) ≤ 1000 by omega)]; rfl
  rw [c_sl01In, hin]
  simp only [Option.bind_some, one_bool, Bool.not_true, cond_false]
  rw [show R (.fn F.sl02One) [.agg [.int .i64 (omega p).k, .int .i64 (omega p).p, .int .i64 (omega p).n]] H = _ from e2]
  simp only [Option.bind_some, one_sl]
  have e3 : R (.loop F.sPowElem 0) [.sc (.sl s), .sc (.int .i64 (n : Int)), .sc (.sl u), .agg [.int .i64 (omega p).k, .int .i64 (omega p).p, .int .i64 (omega p).n]] H1 = _ := e3
  rw [e3]
  rfl
end Go.Abs
/- Contracts: the first state (spec). -/
namespace Go.Abs
set_option linter.all false
set_option maxRecDepth 10000

theorem iota_succ (q : Nat) : iota (q + 1) = iota q ++ [(q : Int)] := by simp [iota, List.range_succ]
theorem twos_succ (q : Nat) : twos (q + 1) = twos q ++ [2] := by simp [twos, List.replicate_succ']
theorem iota_len (q : Nat) : (iota q).length = q := by simp [iota]
theorem twos_dims {q : Nat} (h : q ≤ 5) : DimsOk (twos q) := by
  have h1 : 2 ^ q ≤ 2 ^ 5 := Nat.pow_le_pow_right (by omega) h
  refine ⟨by simp; omega, fun d hd => ?_, ?_⟩
  · rw [List.eq_of_mem_replicate hd]; omega
  · have := prd_twos q
    rw [show prd (twos q) = ((2 ^ q : Nat) : Int) from this]
    omega
theorem fr3 {H0 H : AH} (h : Go.Abs.Le H0 H) (a b c : Nat) : Fr H0 H [((⟨a, 0, 0, 0, true⟩ : Sl), ([] : List Int)), (⟨b, 0, 0, 0, true⟩, []), (⟨c, 0, 0, 0, true⟩, [])] := (((Fr.of h).empty c).empty b).empty a
theorem c_sBasisState_0 {H0 : AH} {q : Nat} (hq : q ≤ 5) : ∀ (k i : Nat), i + k = q → ∀ (H : AH) (a b c : Sl), Fr H0 H [(a, iota i), (b, twos i), (c, List.replicate i 0)] →
    ∃ a' b' c' H', R (.loop F.sBasisState 0) [isc (q : Int), isc 0, ssc a, ssc b, ssc c, isc (i : Int)] H = some ⟨2, [ssc a', ssc b', ssc c'], H'⟩ ∧ Fr H0 H' [(a', iota q), (b', twos q), (c', List.replicate q 0)] := by
  intro k
  induction k with
  | zero =>
    intro i hi H a b c hF
    obtain rfl : i = q := by omega
    exact ⟨a, b, c, H, by rw [R_eq, e_sBasisState_0, lt_self]; rfl, hF⟩
  | succ k ih =>
    intro i hi H a b c hF
    have hlt : i < q := by omega
    obtain ⟨a1, H1, e1, F1⟩ := Fr.push [] hF (by simp; omega) (i : Int)
    obtain ⟨b1, H2, e2, F2⟩ := Fr.push [(a1, iota i ++ [(i : Int)])] F1 (by simp; omega) 2
    obtain ⟨c1, H3, e3, F3⟩ := Fr.push [(a1, iota i ++ [(i : Int)]), (b1, twos i ++ [2])] F2 (by simp; omega) 0
    have F3 : Fr H0 H3 [(a1, iota (i + 1)), (b1, twos (i + 1)), (c1, List.replicate (i + 1) 0)] := by
      rw [iota_succ, twos_succ, List.replicate_succ' (n := i) (a := (0 : Int))]; exact F3
    obtain ⟨a', b', c', H', e4, F4⟩ := ih (i + 1) (by omega) H3 a1 b1 c1 F3
    refine ⟨a', b', c', H', ?_, F4⟩
    have hb : bitK 0 i = 0 := by unfold bitK; simp
    rw [R_eq, e_sBasisState_0, lt_true hlt, w1 hlt (by omega), cond_true, decide_eq_false (show ¬ (i : Int) < 0 by omega)]
    rw [bit_eq (k := 0) (by omega) (by omega) (show i ≤ 40 by omega), hb]
    simp only [cond_false]
    rw [e1, e2, e3]
    exact e4
def baseB (p : Int) (q : Nat) : Bool := primeB p && !(p == 2) && (decide (1 ≤ q) && decide (q ≤ 5))
theorem base_at {p : Int} {q : Nat} (h : baseB p q = true) : primeB p = true ∧ p > 2 ∧ 1 ≤ q ∧ q ≤ 5 := by
  simp only [baseB, Bool.and_eq_true, Bool.not_eq_true', decide_eq_true_eq, beq_eq_false_iff_ne, ne_eq] at h
  have h2 := prime_two h.1.1
  exact ⟨h.1.1, by omega, h.2.1, h.2.2⟩
theorem t_3s {α : Type} (a b c : Sl) (K : Sl → Sl → Sl → Option α) : ((nthP [ssc a, ssc b, ssc c] 0).bind fun p32 => p32.sc?.bind fun c33 => (slAt [c33] 0).bind fun s34 => (nthP [ssc a, ssc b, ssc c] 1).bind fun p35 => p35.sc?.bind fun c36 => (slAt [c36] 0).bind fun s37 => (nthP [ssc a, ssc b, ssc c] 2).bind fun p38 => p38.sc?.bind fun c39 => (slAt [c39] 0).bind fun s40 => K s34 s37 s40) = K a b c := rfl
theorem calc_sBasisState {p : Int} {q : Nat} {t : Int} {H H1 H2 H3 H4 : AH} {a1 b1 c1 a b c s1 : Sl} (hp : primeB p = true) (hp2 : (p == 2) = false) (hq : (decide (1 ≤ q) && decide (q ≤ 5)) = true) (ht : IntKind.wrap .i64 (shlL .i64 1 (q : Int) - 1) = t) (hin : inB 0 0 t = true)
    (e1 : R (.loop F.sBasisState 0) [isc (q : Int), isc 0, ssc ⟨H.length, 0, 0, 0, true⟩, ssc ⟨(H ++ [(⟨[], .rw, 1⟩ : Blk)]).length, 0, 0, 0, true⟩, ssc ⟨((H ++ [(⟨[], .rw, 1⟩ : Blk)]) ++ [(⟨[], .rw, 1⟩ : Blk)]).length, 0, 0, 0, true⟩, isc 0] (((H ++ [(⟨[], .rw, 1⟩ : Blk)]) ++ [(⟨[], .rw, 1⟩ : Blk)]) ++ [(⟨[], .rw, 1⟩ : Blk)]) = some ⟨2, [ssc a1, ssc b1, ssc c1], H1⟩)
    (e2 : R (.fn F.sl05Zero) [(omega p).pv, ssc a1, ssc b1] H1 = some ⟨1, [tpv a b c], H2⟩)
    (e3 : R (.fn F.sl05Offset) [ssc b1, ssc c1] H2 = some ⟨1, [isc 0], H2⟩)
    (e4 : R (.fn F.sl02One) [(omega p).pv] H2 = some ⟨1, [ssc s1], H3⟩)
    (e5 : R (.fn F.sl05Put) [(omega p).pv, tpv a b c, isc 0, ssc s1] H3 = some ⟨1, [], H4⟩) :
    R (.fn F.sBasisState) [isc p, isc (q : Int), isc 0] H = some ⟨1, [tpv a b c, bsc true], H4⟩ := by
  have nb : ∀ G : AH, newB G 1 [] = some (G.length, G ++ [⟨[], .rw, 1⟩]) := fun _ => rfl
  rw [R_eq, e_sBasisState, c_sIsPrime, hp]
  simp only [Option.bind_some, one_bool, Bool.not_true, cond_false, hp2]
  rw [c_sl01In, in15, hq]
  simp only [Option.bind_some, one_bool, Bool.not_true, cond_false]
  rw [decide_eq_false (show ¬ (q : Int) < 0 by omega), cond_false, ht, c_sl01In, hin]
  simp only [Option.bind_some, one_bool, Bool.not_true, cond_false]
  rw [c_sl40Ring]
  simp only [Option.bind_some, Rg.pv, o_iii]
  rw [nb]
  simp only [Option.bind_some]
  rw [nb]
  simp only [Option.bind_some]
  rw [nb]
  simp only [Option.bind_some]
  rw [e1]
  simp only [Option.bind_some, Nat.beq, cond_true, t_3s]
  rw [e2]
  simp only [Option.bind_some, o_sss]
  rw [e3]
  simp only [Option.bind_some, one_int]
  rw [e4]
  simp only [Option.bind_some, one_sl]
  rw [e5]
  simp only [Option.bind_some]
/-- spec.BasisState, at 0 -/
theorem c_sBasisState {p : Int} {q : Nat} {H : AH} : (baseB p q = true ∧ ∃ a b c H', R (.fn F.sBasisState) [isc p, isc (q : Int), isc 0] H = some ⟨1, [tpv a b c, bsc true], H'⟩ ∧ Go.Abs.Le H H' ∧ IS H' a (iota q) ∧ IS H' b (twos q)) ∨
    (baseB p q = false ∧ R (.fn F.sBasisState) [isc p, isc (q : Int), isc 0] H = some ⟨1, [nil3, bsc false], H⟩) := by
  cases hb : baseB p q with
  | false =>
    refine .inr ⟨rfl, ?_⟩
    rw [R_eq, e_sBasisState, c_sIsPrime]
    simp only [Option.bind_some, one_bool]
    unfold baseB at hb
    cases h1 : primeB p with
    | false => rfl
    | true =>
      rw [h1] at hb
      simp only [Bool.not_true, cond_false]
      cases h2 : p == 2 with
      | true => rfl
      | false =>
        rw [h2] at hb
        simp only [cond_false]
        rw [c_sl01In, in15]
        simp only [Option.bind_some, one_bool]
        rw [show (decide (1 ≤ q) && decide (q ≤ 5)) = false from by simpa using hb]
        rfl
  | true =>
    refine .inl ⟨rfl, ?_⟩
    obtain ⟨hp, hp2, h1, h5⟩ := base_at hb
    have hv := om_vr hp hp2
    have h32 : 2 ^ q ≤ 2 ^ 5 := Nat.pow_le_pow_right (by omega) h5
    have h0 : 0 < 2 ^ q := Nat.pow_pos (by omega)
    have l1 := Go.Abs.Le.app H [⟨[], .rw, 1⟩]
    have l2 := l1.trans (Go.Abs.Le.app (H ++ [⟨[], .rw, 1⟩]) [⟨[], .rw, 1⟩])
    have l3 := l2.trans (Go.Abs.Le.app ((H ++ [⟨[], .rw, 1⟩]) ++ [⟨[], .rw, 1⟩]) [⟨[], .rw, 1⟩])
    obtain ⟨a1, b1, c1, H1, e1, F1⟩ := c_sBasisState_0 h5 q 0 (by omega) _ _ _ _ (fr3 l3 H.length (H ++ [(⟨[], .rw, 1⟩ : Blk)]).length ((H ++ [(⟨[], .rw, 1⟩ : Blk)]) ++ [(⟨[], .rw, 1⟩ : Blk)]).length)
    have e1 : R (.loop F.sBasisState 0) [isc (q : Int), isc 0, ssc ⟨H.length, 0, 0, 0, true⟩, ssc ⟨(H ++ [(⟨[], .rw, 1⟩ : Blk)]).length, 0, 0, 0, true⟩, ssc ⟨((H ++ [(⟨[], .rw, 1⟩ : Blk)]) ++ [(⟨[], .rw, 1⟩ : Blk)]).length, 0, 0, 0, true⟩, isc 0] _ = _ := e1
    have ia := F1.is (s := a1) (l := iota q) (by simp)
    have ib := F1.is (s := b1) (l := twos q) (by simp)
    have ic := F1.is (s := c1) (l := List.replicate q 0) (by simp)
    obtain ⟨a, b, c, H2, e2, n2⟩ := c_sl05Zero hv.rg ia ib (by rw [iota_len]; omega) (twos_dims h5)
    have hge : ∀ d ∈ twos q, (1 : Int) ≤ d := fun d hd => by rw [List.eq_of_mem_replicate hd]; omega
    have hfit : fitsI (twos q) (List.replicate q 0) := fits_twos.2 ⟨by simp, fun v hv => by rw [List.eq_of_mem_replicate hv]; omega⟩
    have hpr : prd (twos q) = ((2 ^ q : Nat) : Int) := prd_twos q
    have hoff : offF (twos q) (List.replicate q 0) = 0 := by
      have h1 := idxF_zero (twos q)
      rw [List.length_replicate] at h1
      rw [← h1, offF_idx hge (by omega) (by rw [hpr]; omega)]
    have e3 := c_sl05Offset (ib.le n2.le) (ic.le n2.le) hfit (by simp; omega) hge (by rw [hpr]; omega)
    rw [hoff] at e3
    obtain ⟨s1, H3, e4, n4⟩ := c_sl02One hv.rg H2
    have hts := n2.ts
    rw [hpr, Int.toNat_natCast] at n2 hts
    have F2 := (Fr.of (H0 := H1) (Go.Abs.Le.refl H1)).newT n2
    have F2 : Fr H1 H2 [(a, iota q), (b, twos q), (c, (List.replicate (2 ^ q) (zeroR (omega p))).flatten)] := F2
    have F3 := F2.newN n4
    have F3 : Fr H1 H3 [(s1, oneR (omega p)), (a, iota q), (b, twos q), (c, (List.replicate (2 ^ q) (zeroR (omega p))).flatten)] := F3
    have hzl : (zeroR (omega p)).length = 4 := by rw [zeroR_len]; rfl
    have hol : (oneR (omega p)).length = 4 := by rw [oneR_len]; rfl
    have hU : Uni 4 (List.replicate (2 ^ q) (zeroR (omega p))) := fun e he => by rw [List.eq_of_mem_replicate he]; exact hzl
    have hne := flat_ne hU (by omega) (by simpa using h0)
    have hone : oneR (omega p) ≠ [] := fun e => by rw [e] at hol; simp at hol
    obtain ⟨H4, e5, m5⟩ := m_sl05Put (r := omega p) (a := a) (b := b) (n := 0) (w := 4) rfl (by omega) hU (by simpa using h0) hol (F3.own (s := c) (l := (List.replicate (2 ^ q) (zeroR (omega p))).flatten) (by simp)) (F3.is (s := s1) (l := oneR (omega p)) (by simp))
      (fr_apart F3 (q := (c, (List.replicate (2 ^ q) (zeroR (omega p))).flatten)) (by simp) hone hne) (by simp; omega)
    have F4 := Fr.mut [(s1, oneR (omega p)), (a, iota q), (b, twos q)] (ys := []) F3 m5 (fun e => absurd e hne)
    refine ⟨a, b, c, H4, ?_, F1.le.trans F4.le, F4.is (s := a) (l := iota q) (by simp), F4.is (s := b) (l := twos q) (by simp)⟩
    have hin : inB 0 0 (((2 ^ q : Nat) : Int) - 1) = true := by
      unfold inB
      generalize 2 ^ q = m at h0 ⊢
      rw [decide_eq_true (show (0 : Int) ≥ 0 by omega), decide_eq_true (show (0 : Int) ≤ (m : Int) - 1 by omega)]; rfl
    exact calc_sBasisState hp (bf (by omega)) (by rw [decide_eq_true h1, decide_eq_true h5]; rfl) (top_q h5) hin e1 e2 e3 e4 e5
end Go.Abs
/- Contracts: a tensor is scaled (impl), with numbers that have a root of unity. -/
namespace Go.Abs
set_option linter.all false
set_option maxRecDepth 10000

theorem putL_put {cs x : List Int} {o i : Nat} {v : Int} (h : o + x.length ≤ cs.length) (hi : i < x.length) : (putL cs o x).set (o + i) v = putL cs o (x.set i v) := by
  refine List.ext_getElem? fun j => ?_
  rw [List.getElem?_set, putL_len h, putL_get h, putL_get (by simpa using h), List.length_set, List.getElem?_set]
  by_cases e : o + i = j
  · subst e
    rw [if_pos rfl, if_pos (by omega), if_neg (by omega), if_pos (by omega), if_pos (by omega), if_pos (by omega)]
  · rw [if_neg e]
    split
    · rfl
    · split
      · rw [if_neg (by omega)]
      · rfl
theorem part_is {H : AH} {d : Sl} {cs o : List Int} {n : Nat} (hb : H[d.b]? = some ⟨ics (putL cs d.o o), .rw, 1⟩) (hl : d.o + n ≤ cs.length) (ho : o.length = n) (hn : d.n = n) (hc : n ≤ d.c) : IS H d o := by
  refine ⟨by omega, by omega, .inr ⟨ics (putL cs d.o o), by unfold rdB; rw [hb]; rfl, fun i x hi => ?_⟩⟩
  have hil := (List.getElem?_eq_some_iff.1 hi).1
  rw [List.getElem?_map, putL_get (by omega), if_neg (by omega), if_pos (by omega), Nat.add_sub_cancel_left, hi]
  rfl
/-- impl.mulCoefficients on a part: one row -/
theorem q_imulCoefficients_1 {r : Rg} {n : Nat} (h : VRg r n) {d s u : Sl} {cs x y : List Int} (hdn : d.n = n) (hdc : n ≤ d.c) (hdl : d.o + n ≤ cs.length) (hx : inP r.p n x) (hy : inP r.p n y) {i : Nat} (hi : i < n) :
    ∀ (k j : Nat), j + k = n → ∀ (H : AH) (o : List Int), H[d.b]? = some ⟨ics (putL cs d.o o), .rw, 1⟩ → inP r.p n o → IS H s x → IS H u y → s.b ≠ d.b → u.b ≠ d.b →
      R (.loop F.imulCoefficients 1) [ssc d, ssc s, ssc u, isc (i : Int), isc (n : Int), isc (j : Int), r.pv] H = some ⟨4, [], H.set d.b ⟨ics (putL cs d.o (mulJ r n (x.getD i 0) (y.drop j) (i + j) o)), .rw, 1⟩⟩ := by
  have hlo := h.lo; have hhi := h.hi; have hn6 := h.n6
  intro k
  induction k with
  | zero =>
    intro j hj H o hb ho hs hu hsb hub
    obtain rfl : j = n := by omega
    rw [R_eq, e_imulCoefficients_1, lt_self, List.drop_eq_nil_of_le (by rw [hy.1]; exact Nat.le_refl _)]
    simp only [mulJ, cond_false]
    rw [set_self hb]
  | succ k ih =>
    intro j hj H o hb ho hs hu hsb hub
    have hlt : j < n := by omega
    have hxi : i < x.length := by rw [hx.1]; exact hi
    have hyj : j < y.length := by rw [hy.1]; exact hlt
    have a1 := hx.2 _ (List.getElem_mem hxi)
    have b1 := hy.2 _ (List.getElem_mem hyj)
    have hxd : x.getD i 0 = x[i] := by rw [List.getD_eq_getElem?_getD, List.getElem?_eq_getElem hxi]; rfl
    have hp0 : (r.p == 0) = false := by simp only [beq_eq_false_iff_ne, ne_eq]; omega
    have hm1 : 0 ≤ x[i] * y[j] := Int.mul_nonneg a1.1 b1.1
    have hm2 : x[i] * y[j] ≤ 1000003 * 1000003 := Int.mul_le_mul (by omega) (by omega) b1.1 (by omega)
    have hwm : IntKind.wrap .i64 (x[i] * y[j]) = x[i] * y[j] := by rw [wrap_id] <;> omega
    have hmr := tmod_rng hm1 (show 0 < r.p by omega)
    have hwk : IntKind.wrap .i64 ((i : Int) + (j : Int)) = ((i + j : Nat) : Int) := by rw [wrap_id] <;> omega
    have hod : IS H d o := part_is hb hdl ho.1 hdn hdc
    have put : ∀ (m : Nat), m < n → ∀ (v : Int) (K : AH → Option Out), ((ixA d (m : Int) 1).bind fun o' => (putR H d.b o' [.int .i64 v]).bind K) = K (H.set d.b ⟨ics (putL cs d.o (o.set m v)), .rw, 1⟩) := by
      intro m hm v K
      have hol := ho.1
      rw [ixA_nat (by omega), Nat.mul_one]
      simp only [Option.bind_some]
      rw [putR_one hb (by rw [ics_len, putL_len (by omega)]; omega), ics_set, putL_put (by omega) (by omega)]
      rfl
    rw [List.drop_eq_getElem_cons hyj]
    simp only [mulJ]
    have nx : ∀ o', o' = mulE r n (i + j) x[i] y[j] o → R (.loop F.imulCoefficients 1) [ssc d, ssc s, ssc u, isc (i : Int), isc (n : Int), isc ((j + 1 : Nat) : Int), r.pv] (H.set d.b ⟨ics (putL cs d.o o'), .rw, 1⟩) = some ⟨4, [], H.set d.b ⟨ics (putL cs d.o (mulJ r n (x.getD i 0) (y.drop (j + 1)) (i + j + 1) (mulE r n (i + j) (x.getD i 0) y[j] o))), .rw, 1⟩⟩ := by
      intro o' ho'
      have hin : inP r.p n o' := by
        rw [ho']
        exact in_mulE ho (by omega) a1 b1 fun h8 => by have := h.n4 h8; omega
      rw [ih (j + 1) (by omega) (H.set d.b ⟨ics (putL cs d.o o'), .rw, 1⟩) o' (set_get hb) hin (hs.set fun _ => hsb) (hu.set fun _ => hub) hsb hub, set_set, ho', hxd]
      rfl
    rw [R_eq, e_imulCoefficients_1, lt_true hlt, w1 hlt (by omega), cond_true, hs.ldk hxi, hu.ldk hyj, hp0, cond_false, hwk, hwm, hdn]
    by_cases hk : i + j < n
    · have hko : i + j < o.length := by rw [ho.1]; exact hk
      have o1 := ho.2 _ (List.getElem_mem hko)
      have hwo : IntKind.wrap .i64 (o[i + j] + (x[i] * y[j]).tmod r.p) = o[i + j] + (x[i] * y[j]).tmod r.p := by rw [wrap_id] <;> omega
      rw [decide_eq_true (show ((i + j : Nat) : Int) < (n : Int) by omega), cond_true, hod.ldk hko, put _ hk, hwo, tm_add o1.1 hm1 (by omega)]
      refine nx _ ?_
      unfold mulE
      rw [if_pos hk, List.getD_eq_getElem?_getD, List.getElem?_eq_getElem hko]
      rfl
    · rw [decide_eq_false (show ¬ ((i + j : Nat) : Int) < (n : Int) by omega), cond_false]
      rcases h.k with h7 | h8
      · have h8 : (r.k == 8) = false := by rw [h7]; rfl
        rw [h8, cond_false]
        have := nx o (by unfold mulE; rw [if_neg hk, if_neg (by omega)])
        rw [set_self hb] at this
        exact this
      · have hn4 := h.n4 h8
        have h8' : (r.k == 8) = true := by rw [h8]; rfl
        have hw4 : IntKind.wrap .i64 (((i + j : Nat) : Int) - 4) = ((i + j - 4 : Nat) : Int) := by rw [wrap_id] <;> omega
        have hk4 : i + j - 4 < n := by omega
        have hko : i + j - 4 < o.length := by rw [ho.1]; exact hk4
        have o1 := ho.2 _ (List.getElem_mem hko)
        have hwo1 : IntKind.wrap .i64 (o[i + j - 4] + r.p) = o[i + j - 4] + r.p := by rw [wrap_id] <;> omega
        have hwo : IntKind.wrap .i64 (o[i + j - 4] + r.p - (x[i] * y[j]).tmod r.p) = o[i + j - 4] + r.p - (x[i] * y[j]).tmod r.p := by rw [wrap_id] <;> omega
        rw [h8', cond_true, hw4, hod.ldk hko, put _ hk4, hwo1, hwo, tm_sub o1.1 a1.1 a1.2 b1.1]
        refine nx _ ?_
        unfold mulE
        rw [if_neg hk, if_pos h8, List.getD_eq_getElem?_getD, List.getElem?_eq_getElem hko]
        rfl
/-- impl.mulInto on a part -/
theorem q_imulInto {r : Rg} {n : Nat} (h : VRg r n) {H : AH} {d s u : Sl} {cs x y : List Int} (hdn : d.n = n) (hdc : n ≤ d.c) (hdl : d.o + n ≤ cs.length) (hx : inP r.p n x) (hy : inP r.p n y)
    (hb : H[d.b]? = some ⟨ics cs, .rw, 1⟩) (hs : IS H s x) (hu : IS H u y) (hsb : s.b ≠ d.b) (hub : u.b ≠ d.b) :
    R (.fn F.imulInto) [r.pv, ssc d, ssc s, ssc u] H = some ⟨1, [], H.set d.b ⟨ics (putL cs d.o (mulP r x y)), .rw, 1⟩⟩ := by
  have hlo := h.lo; have hn6 := h.n6
  obtain ⟨k1, k2, k3, k4, k5, k6⟩ := h.ks
  have loop : ∀ (k i : Nat), i + k = n → ∀ (G : AH) (o : List Int), G[d.b]? = some ⟨ics (putL cs d.o o), .rw, 1⟩ → inP r.p n o → IS G s x → IS G u y →
      R (.loop F.imulCoefficients 0) [ssc d, ssc s, ssc u, isc (n : Int), isc (i : Int), r.pv] G = some ⟨2, [], G.set d.b ⟨ics (putL cs d.o (mulO r n y (x.drop i) i o)), .rw, 1⟩⟩ := by
    intro k
    induction k with
    | zero =>
      intro i hi G o hb ho hs hu
      obtain rfl : i = n := by omega
      rw [R_eq, e_imulCoefficients_0, lt_self, List.drop_eq_nil_of_le (by rw [hx.1]; exact Nat.le_refl _)]
      simp only [mulO, cond_false]
      rw [set_self hb]
    | succ k ih =>
      intro i hi G o hb ho hs hu
      have hlt : i < n := by omega
      have hxi : i < x.length := by rw [hx.1]; exact hlt
      have hxd : x.getD i 0 = x[i] := by rw [List.getD_eq_getElem?_getD, List.getElem?_eq_getElem hxi]; rfl
      have hun : u.n = n := by rw [hu.n, hy.1]
      have e1 := q_imulCoefficients_1 h hdn hdc hdl hx hy hlt n 0 (by omega) G o hb ho hs hu hsb hub
      have e1 : R (.loop F.imulCoefficients 1) [ssc d, ssc s, ssc u, isc (i : Int), isc (n : Int), isc 0, r.pv] G = _ := e1
      rw [R_eq, e_imulCoefficients_0, lt_true hlt, w1 hlt (by omega), cond_true, hun, e1]
      simp only [Option.bind_some, Nat.beq, cond_true, List.drop_zero, Nat.add_zero]
      have hin : inP r.p n (mulJ r n (x.getD i 0) y i o) := in_mulJ (by omega) (hx.get hlt) ho hy.2 fun h8 => by have := h.n4 h8; rw [hy.1]; omega
      rw [ih (i + 1) (by omega) _ _ (set_get hb) hin (hs.set fun _ => hsb) (hu.set fun _ => hub), set_set, List.drop_eq_getElem_cons hxi]
      simp only [mulO, hxd]
  have e0 : clrB H d [.int .i64 0] = some (H.set d.b ⟨ics (putL cs d.o (List.replicate n 0)), .rw, 1⟩) := by
    unfold clrB
    have e : (List.replicate d.n [Sc.int .i64 0]).flatten = ics (List.replicate n 0) := by rw [hdn]; simp [List.flatten_replicate_singleton, List.map_replicate]
    rw [e, putR_ics hb (by simp; omega)]
  have e2 := loop n 0 (by omega) (H.set d.b ⟨ics (putL cs d.o (List.replicate n 0)), .rw, 1⟩) _ (set_get hb) (inP.rep (by omega) n) (hs.set fun _ => hsb) (hu.set fun _ => hub)
  have e2 : R (.loop F.imulCoefficients 0) [ssc d, ssc s, ssc u, isc (n : Int), isc 0, r.pv] _ = _ := e2
  have hsn : s.n = n := by rw [hs.n, hx.1]
  have e3 : R (.fn F.imulCoefficients) [r.pv, ssc d, ssc s, ssc u] H = some ⟨1, [], H.set d.b ⟨ics (putL cs d.o (mulP r x y)), .rw, 1⟩⟩ := by
    rw [R_eq, e_imulCoefficients, e0]
    simp only [Option.bind_some, hsn]
    rw [e2, set_set]
    simp only [Option.bind_some, Nat.beq, cond_true, List.drop_zero]
    unfold mulP
    rw [h.w, Int.toNat_natCast]
  rw [R_eq, e_imulInto]
  simp only [k1, k2, k3, k4, k5, k6, cond_false, Option.bind_some, Nat.beq, cond_true, n_bool]
  rw [e3]
  rfl
/-- A tensor of given elements. -/
theorem tens_of {r : Rg} {T : Tn} (h : tensorB r T = true) {E : List (List Int)} (hl : (E.length : Int) = prd T.D) (hv : ∀ e ∈ E, VE r e) : tensorB r ⟨T.L, T.D, E.flatten⟩ = true := by
  have hT := tensor_ok h
  have h3 := (tensor_dims h).2.2
  refine tensor_mk ⟨hT.rg, h3, hT.d, ?_, ?_⟩
  · show ((E.flatten.length : Nat) : Int) = prd T.D * widthR r
    rw [flatV_len hv, hl]
  · refine List.all_eq_true.2 fun v hm => ?_
    obtain ⟨e, he, hve⟩ := List.mem_flatten.1 hm
    have := (hv e he).2 v hve
    simpa [inB] using this
/-- The elements of a tensor. -/
def elsT (w : Nat) (t : Tn) : List (List Int) := (List.range (prd t.D).toNat).map (getE w t.X)
theorem els_flat {r : Rg} {t : Tn} (h : tensorB r t = true) : (elsT (widthR r).toNat t).flatten = t.X := by
  have hT := tensor_ok h
  obtain ⟨N, hN, hN1, hN2, hN3⟩ := hT.d.nat
  have hwr := width_range hT.rg
  obtain ⟨w, hw⟩ : ∃ w : Nat, widthR r = (w : Int) := ⟨(widthR r).toNat, by omega⟩
  have hl := hT.len
  rw [hw, hN, ← Int.natCast_mul] at hl
  have hl : t.X.length = N * w := by omega
  unfold elsT
  rw [hw, hN, Int.toNat_natCast, Int.toNat_natCast]
  have key : ∀ (m : Nat) (X : List Int), X.length = m * w → ((List.range m).map (getE w X)).flatten = X := by
    intro m
    induction m with
    | zero => intro X hX; rw [Nat.zero_mul] at hX; rw [List.length_eq_zero_iff.1 hX]; rfl
    | succ m ih =>
      intro X hX
      rw [Nat.add_mul, Nat.one_mul] at hX
      rw [List.range_succ_eq_map, List.map_cons, List.flatten_cons, List.map_map]
      have h1 : getE w X 0 = X.take w := by unfold getE; simp
      have h2 : (getE w X ∘ Nat.succ) = getE w (X.drop w) := by
        funext j
        unfold getE
        simp only [Function.comp, List.drop_drop]
        congr 2
        rw [Nat.succ_mul]; omega
      rw [h1, h2, ih (X.drop w) (by simp; omega), List.take_append_drop]
  exact key N t.X hl
theorem els_ve {r : Rg} {t : Tn} (h : tensorB r t = true) : ∀ e ∈ elsT (widthR r).toNat t, VE r e := by
  intro e he
  unfold elsT at he
  obtain ⟨n, hn, rfl⟩ := List.mem_map.1 he
  have hT := tensor_ok h
  have := prd_pos hT.d.ge
  exact getE_ve h (by have := List.mem_range.1 hn; omega)
theorem getE_flat {w : Nat} {E : List (List Int)} (hu : Uni w E) {n : Nat} (hn : n < E.length) : getE w E.flatten n = E[n] := uni_at hu hn
/-- impl.ScaleTensor -/
theorem c_iScaleTensor {r : Rg} {n : Nat} (h : VRg r n) {H : AH} {a b c s : Sl} {T : Tn} {x : List Int} (hT : tensorB r T = true) (ht : TS H a b c T) (hs : IS H s x) (hx : inP r.p n x) :
    ∃ a' b' c' H', R (.fn F.iScaleTensor) [r.pv, tpv a b c, ssc s] H = some ⟨1, [tpv a' b' c'], H'⟩ ∧ NewT H H' a' b' c' ⟨T.L, T.D, ((elsT n T).map (mulP r x)).flatten⟩ := by
  have hTb := tensor_ok hT
  obtain ⟨N, hN, hN1, hN2, hN3⟩ := hTb.d.nat
  have hlo := h.lo; have hn6 := h.n6; have hn1 := h.n1
  have hw := h.w
  have hwt : (widthR r).toNat = n := by omega
  obtain ⟨a', b', c', H1, e1, n1⟩ := n_icopyTensor ht (ok_small hT)
  have hfl := els_flat hT
  rw [hwt] at hfl
  have hve := els_ve hT
  rw [hwt] at hve
  have hel : (elsT n T).length = N := by unfold elsT; rw [hN]; simp
  have hxv := h.ve.2 hx
  have F1 := (Fr.of (H0 := H) (Go.Abs.Le.refl H)).newT n1
  have F1 : Fr H H1 ((a', T.L) :: (b', T.D) :: (c', T.X) :: []) := F1
  have F1 : Fr H H1 ((c', (elsT n T).flatten) :: (a', T.L) :: (b', T.D) :: []) := by
    rw [hfl]
    exact F1.perm (List.perm_append_comm (l₂ := [(a', T.L), (b', T.D)]) (l₁ := [(c', T.X)]))
  have hge := hTb.d.ge
  have loop : ∀ (k i : Nat), i + k = N → ∀ (G : AH) (E : List (List Int)), Fr H G ((c', E.flatten) :: (a', T.L) :: (b', T.D) :: []) → E.length = N → (∀ e ∈ E, VE r e) → (∀ j, j < i → E[j]? = some (mulP r x (getE n T.X j))) →
      ∃ G', R (.loop F.iScaleTensor 0) [ssc s, isc (i : Int), r.pv, tpv a b c, tpv a' b' c'] G = some ⟨2, [], G'⟩ ∧ Fr H G' ((c', ((elsT n T).map (mulP r x)).flatten) :: (a', T.L) :: (b', T.D) :: []) := by
    intro k
    induction k with
    | zero =>
      intro i hi G E hF hE hv hd
      obtain rfl : i = N := by omega
      have hEe : E = (elsT n T).map (mulP r x) := by
        refine List.ext_getElem? fun j => ?_
        by_cases hj : j < i
        · rw [hd j hj]
          unfold elsT
          rw [List.getElem?_map, List.getElem?_map, hN, Int.toNat_natCast, List.getElem?_range hj]; rfl
        · rw [List.getElem?_eq_none (by omega), List.getElem?_eq_none (by rw [List.length_map, hel]; omega)]
      rw [hEe] at hF
      refine ⟨G, ?_, hF⟩
      rw [R_eq, e_iScaleTensor_0, c_iproductOf2 (ht.D.le hF.le) (by have := hTb.d.1; omega) hge (by rw [hN]; omega)]
      simp only [Option.bind_some, one_int]
      rw [hN, lt_self, cond_false]
    | succ k ih =>
      intro i hi G E hF hE hv hd
      have hlt : i < N := by omega
      have hEu := ve_uni hw hv
      have hfE := uni_len hEu
      have hEne := flat_ne hEu (by omega) (by omega)
      have oC := hF.own (s := c') (l := E.flatten) (by simp)
      have hle3 : (i + 1) * n ≤ E.length * n := Nat.mul_le_mul_right _ (by omega)
      have hNw : E.length * n ≤ 4096 * 6 := Nat.mul_le_mul (by omega) hn6
      have hcc := oC.c
      have e3n : (i + 1) * n = i * n + n := by rw [Nat.add_mul, Nat.one_mul]
      have e4 := c_irawElem' (r := r) (H := G) (a := a') (b := b') (c := c') (n := i) hw (by omega) (by omega) (by omega) (by omega)
      obtain ⟨e5, i5, v5, n5⟩ := cut_elem (x := a) (y := b) hw (ht.X.le hF.le) hT (n := i) (by rw [hN]; omega)
      have hxn : x ≠ [] := fun e => by have := hx.1; rw [e] at this; simp at this; omega
      have hsb := fr_below hF (p := (c', E.flatten)) (by simp) hEne hs hxn
      have hub := fr_below hF (p := (c', E.flatten)) (by simp) hEne ht.X n5
      have e6 := q_imulInto h (d := partAt c' n i) (s := s) (u := partAt c n i) rfl (by show n ≤ c'.c - i * n; omega) (by show c'.o + i * n + n ≤ _; rw [oC.o]; omega) hx (h.ve.1 v5) (oC.blk' hEne) (hs.le hF.le) i5 hsb hub
      have vM := h.alg.m hxv v5
      have hres : putL E.flatten (partAt c' n i).o (mulP r x (getE n T.X i)) = (E.set i (mulP r x (getE n T.X i))).flatten := by
        show putL E.flatten (c'.o + i * n) _ = _
        rw [oC.o, Nat.zero_add, putL_flat hEu (by omega) (by have := vM.1; omega)]
      rw [hres] at e6
      have hv' : ∀ e ∈ E.set i (mulP r x (getE n T.X i)), VE r e := fun e he => by
        rcases List.mem_or_eq_of_mem_set he with he | rfl
        · exact hv e he
        · exact vM
      have hlen2 : (E.set i (mulP r x (getE n T.X i))).flatten.length = E.flatten.length := by rw [uni_len (ve_uni hw hv'), hfE, List.length_set]
      have F3 := Fr.mut [] (ys := (a', T.L) :: (b', T.D) :: []) hF (Mut.set oC hEne hlen2) (fun e => absurd e hEne)
      obtain ⟨G', e7, F7⟩ := ih (i + 1) (by omega) _ _ F3 (by simpa using hE) hv' (fun j hj => by
        rw [List.getElem?_set]
        by_cases hji : i = j
        · subst hji; rw [if_pos rfl, if_pos (by omega)]
        · rw [if_neg hji]; exact hd j (by omega))
      refine ⟨G', ?_, F7⟩
      rw [R_eq, e_iScaleTensor_0, c_iproductOf2 (ht.D.le hF.le) (by have := hTb.d.1; omega) hge (by rw [hN]; omega)]
      simp only [Option.bind_some, one_int]
      rw [hN, lt_true hlt, cond_true, w1 hlt (by omega), e4]
      simp only [Option.bind_some, one_sl]
      rw [e5]
      simp only [Option.bind_some, one_sl]
      rw [e6]
      simp only [Option.bind_some]
      exact e7
  obtain ⟨G', e2, F2⟩ := loop N 0 (by omega) H1 _ F1 hel hve (fun j hj => by omega)
  have e2 : R (.loop F.iScaleTensor 0) [ssc s, isc 0, r.pv, tpv a b c, tpv a' b' c'] H1 = _ := e2
  have F4 := F2.perm (List.perm_append_comm (l₂ := [(c', ((elsT n T).map (mulP r x)).flatten)]) (l₁ := [(a', T.L), (b', T.D)]))
  have eE : R (.fn F.iElemOk) [r.pv, ssc s] H = some ⟨1, [bsc true], H⟩ := by
    have hall := ve_all hxv
    simp only [Bool.and_eq_true] at hall
    rw [R_eq, e_iElemOk]
    rw [show R (.fn F.iRingOk) [.agg [.int .i64 r.k, .int .i64 r.p, .int .i64 r.n]] H = _ from c_iRingOk r H, h.rg]
    simp only [Option.bind_some, one_bool, cond_true]
    rw [show R (.fn F.irawWidth) [.agg [.int .i64 r.k, .int .i64 r.p, .int .i64 r.n]] H = _ from c_irawWidth r H]
    simp only [Option.bind_some, one_int]
    rw [hs.n, hall.2, cond_true]
    rw [show R (.fn F.iinRing) [.agg [.int .i64 r.k, .int .i64 r.p, .int .i64 r.n], .sc (.sl s)] H = _ from c_iinRing r h.rg hs (by have := hx.1; omega), hall.1]
    rfl
  refine ⟨a', b', c', G', ?_, F4.le, F4.rows⟩
  rw [R_eq, e_iScaleTensor]
  rw [show R (.fn F.iTensorOk) [.agg [.int .i64 r.k, .int .i64 r.p, .int .i64 r.n], .agg [.sl a, .sl b, .sl c]] H = _ from c_iTensorOk r ht, hT]
  simp only [Option.bind_some, one_bool, Bool.not_true, cond_false]
  rw [show R (.fn F.iElemOk) [.agg [.int .i64 r.k, .int .i64 r.p, .int .i64 r.n], .sc (.sl s)] H = _ from eE]
  simp only [Option.bind_some, one_bool, Bool.not_true, cond_false]
  rw [e1]
  simp only [Option.bind_some, o_sss]
  rw [show R (.loop F.iScaleTensor 0) [.sc (.sl s), .sc (.int .i64 0), .agg [.int .i64 r.k, .int .i64 r.p, .int .i64 r.n], .agg [.sl a, .sl b, .sl c], .agg [.sl a', .sl b', .sl c']] H1 = _ from e2]
  rfl
end Go.Abs
/- Contracts: an operator is applied to a state (impl). -/
namespace Go.Abs
set_option linter.all false
set_option maxRecDepth 10000

theorem amC_ve {r : Rg} {A M : List Int → List Int → List Int} (hA : AlgOk r A M) {T : Tn} (hT : tensorB r T = true) {q : Nat} (hD : T.D = twos q) {Q : List Int} {ms : List (List Int)} {sz : Nat} (hk : AmOk r q Q ms sz) {row : Nat} (hrow : row < sz) :
    ∀ (k c : Nat) (I acc : List Int), c + k = sz → fitsI (twos q) I → VE r acc → VE r (amC A M ms sz row Q (twos q) T.X (widthR r).toNat k c I acc)
  | 0, _, _, _, _, _, h => h
  | k + 1, c, I, acc, hc, hI, h => by
    simp only [amC]
    have hI' := setF_fits (q := q) (c : Int) Q.length Q 0 I hI
    have hr := offF_range hI'
    rw [← hD] at hr
    have hrc : row * sz + c < ms.length := by
      rw [hk.ml]
      have : (row + 1) * sz ≤ sz * sz := Nat.mul_le_mul_right _ (by omega)
      rw [Nat.add_mul, Nat.one_mul] at this
      omega
    refine amC_ve hA hT hD hk hrow k (c + 1) _ _ (by omega) hI' (hA.a h (hA.m ?_ (getE_ve hT ?_)))
    · rw [List.getD_eq_getElem?_getD, List.getElem?_eq_getElem hrc]
      exact hk.mv _ (List.getElem_mem hrc)
    · rw [← hD]; omega
theorem amE_ve {r : Rg} {A M : List Int → List Int → List Int} (hA : AlgOk r A M) {T : Tn} (hT : tensorB r T = true) {q : Nat} (hD : T.D = twos q) {Q : List Int} {ms : List (List Int)} {sz : Nat} (hk : AmOk r q Q ms sz) (n : Nat) : VE r (amE r A M ms sz Q (twos q) T.X n) := by
  have hfit : fitsI (twos q) (idxF (twos q) (n : Int)) := idxF_fits fun d hd => by rw [List.eq_of_mem_replicate hd]; omega
  obtain ⟨hil, hib⟩ := fits_twos.1 hfit
  have hrr := rowF_rng hib Q 0 (by rw [hil]; exact hk.hq) (by omega)
  exact amC_ve hA hT hD hk (by rw [hk.hs]; omega) sz 0 _ _ (by omega) hfit hA.z
theorem amF_len (r : Rg) (A M : List Int → List Int → List Int) (ms : List (List Int)) (sz : Nat) (Q D X : List Int) : (amF r A M ms sz Q D X).length = (prd D).toNat := by simp [amF]
theorem am_tens {r : Rg} {A M : List Int → List Int → List Int} (hA : AlgOk r A M) {T : Tn} (hT : tensorB r T = true) {q : Nat} (hD : T.D = twos q) {Q : List Int} {ms : List (List Int)} {sz : Nat} (hk : AmOk r q Q ms sz) : tensorB r ⟨T.L, T.D, (amF r A M ms sz Q (twos q) T.X).flatten⟩ = true := by
  refine tens_of hT ?_ fun e he => ?_
  · rw [amF_len, hD]
    have : prd (twos q) = ((2 ^ q : Nat) : Int) := prd_twos q
    rw [this, Int.toNat_natCast]
  · obtain ⟨n, hn, rfl⟩ := List.mem_map.1 he
    exact amE_ve hA hT hD hk n
/-- The matrix of an operator on a qubit. -/
def pm (p : Int) (x z : Int) : List (List Int) := if x = 1 then (if z = 1 then [zG, rootE p 6, rootE p 2, zG] else [zG, oG, oG, zG]) else [oG, zG, zG, rootE p 4]
theorem pm_ok {p : Int} (hv : VRg (omega p) 4) {q i : Nat} (hq : q ≤ 5) (hi : i < q) (x z : Int) : AmOk (omega p) q [(i : Int)] (pm p x z) 2 := by
  have hlo : 2 ≤ p := hv.lo
  have hz : VE (omega p) zG := hv.ve.2 (inP.rep (show 0 < p by omega) 4)
  have ho : VE (omega p) oG := hv.ve.2 (inP.get1 hlo)
  have hr : ∀ k, VE (omega p) (rootE p k) := fun k => hv.ve.2 (root_in hlo k)
  refine ⟨hq, fun y hy => ?_, by simp, rfl, ?_, fun m hm => ?_⟩
  · simp at hy; subst hy; omega
  · unfold pm; split
    · split <;> rfl
    · rfl
  · unfold pm at hm
    split at hm
    · split at hm
      · simp at hm; rcases hm with rfl | rfl | rfl | rfl <;> first | exact hz | exact hr _
      · simp at hm; rcases hm with rfl | rfl | rfl | rfl <;> first | exact hz | exact ho
    · simp at hm; rcases hm with rfl | rfl | rfl | rfl <;> first | exact hz | exact ho | exact hr _
def paE (p : Int) (q : Nat) (x z : Int) (i : Nat) (X : List Int) : List Int :=
  if bitK x i = 1 ∨ bitK z i = 1 then (amF (omega p) (addP p) (mulP (omega p)) (pm p (bitK x i) (bitK z i)) 2 [(i : Int)] (twos q) X).flatten else X
def paF (p : Int) (q : Nat) (x z : Int) : Nat → Nat → List Int → List Int
  | 0, _, X => X
  | k + 1, i, X => paF p q x z k (i + 1) (paE p q x z i X)
theorem paE_tens {p : Int} (hv : VRg (omega p) 4) {q i : Nat} (hq : q ≤ 5) (hi : i < q) {x z : Int} {L X : List Int} (h : tensorB (omega p) ⟨L, twos q, X⟩ = true) : tensorB (omega p) ⟨L, twos q, paE p q x z i X⟩ = true := by
  unfold paE
  split
  · exact am_tens hv.alg h rfl (pm_ok hv hq hi _ _)
  · exact h
theorem paF_tens {p : Int} (hv : VRg (omega p) 4) {q : Nat} (hq : q ≤ 5) {x z : Int} {L : List Int} : ∀ {k i : Nat} {X : List Int}, i + k = q → tensorB (omega p) ⟨L, twos q, X⟩ = true → tensorB (omega p) ⟨L, twos q, paF p q x z k i X⟩ = true
  | 0, _, _, _, h => h
  | k + 1, i, X, hi, h => by
    simp only [paF]
    exact paF_tens hv hq (by omega) (paE_tens hv hq (by omega) h)
theorem dead_rd {H : AH} {b : Nat} (h : H[b]? = some deadB) : rdB H b = none := by unfold rdB; rw [h]; rfl
theorem IS.undead {H : AH} {b : Nat} (hd : H[b]? = some deadB) {s : Sl} {l : List Int} (h : IS H s l) (k : Blk) : IS (H.set b k) s l := h.set fun hl e => by
  rcases h.rd with e' | ⟨cs, hc, _⟩
  · exact hl e'
  · rw [e, dead_rd hd] at hc; cases hc
theorem I2.undead {H : AH} {b : Nat} (hd : H[b]? = some deadB) {s : Sl} {ll : List (List Int)} (h : I2 H s ll) (k : Blk) : I2 (H.set b k) s ll := by
  refine ⟨h.1, h.2.1, h.2.2.imp id fun ⟨cs, h1, h2⟩ => ⟨cs, ?_, fun i l hi => ?_⟩⟩
  · have hne : s.b ≠ b := fun e => by rw [e, dead_rd hd] at h1; cases h1
    unfold rdB at h1 ⊢
    rw [List.getElem?_set_ne (Ne.symm hne)]
    exact h1
  · obtain ⟨a, e1, e2⟩ := h2 i l hi
    exact ⟨a, e1, e2.undead hd k⟩
abbrev ib (i : Nat) : Blk := ⟨[.int .i64 (i : Int)], .rw, 1⟩
theorem ib_is {H : AH} {b i : Nat} (h : H[b]? = some (ib i)) : IS H ⟨b, 0, 1, 1, true⟩ [(i : Int)] := IS.of_blk (l := [(i : Int)]) h (by simp)
theorem new1 {H : AH} {i : Nat} : newAt (reserve H 1) (H.length + 0) 1 [.int .i64 (i : Int)] = some (H.length + 0, H ++ [ib i]) := by
  have h1 : isRes (H ++ [resB]) (H.length + 0) = true := by simp [isRes, resB]
  unfold newAt
  rw [reserve1, if_pos ⟨h1, by omega⟩, Nat.add_zero, app_set]
theorem new2 {H : AH} {i : Nat} : newAt (reserve H 2) (H.length + 0) 1 [.int .i64 (i : Int)] = some (H.length + 0, H ++ [ib i, resB]) := by
  have h0 : reserve H 2 = H ++ [resB, resB] := by simp [reserve]
  have h1 : isRes (H ++ [resB, resB]) (H.length + 0) = true := by simp [isRes, resB]
  unfold newAt
  rw [h0, if_pos ⟨h1, by omega⟩, Nat.add_zero]
  simp
/-- What a qubit's matrix is applied in: a row of one number, and the matrix. -/
theorem prep_gate {p k : Int} (hp : primeB p = true) (hp2 : p > 2) (hk : 1 ≤ k ∧ k ≤ 9) (H : AH) (i : Nat) : ∃ s G1 G, R (.fn F.igateMatrix) [isc p, isc k] ((H ++ [ib i]).set (H.length + 0) deadB) = some ⟨1, [ssc s], G1⟩ ∧ decide (G1.length ≥ (H ++ [ib i]).length) = true ∧
    restB (H ++ [ib i]) G1 (H.length + 0) = G ∧ Go.Abs.Le H G ∧ IS G ⟨H.length + 0, 0, 1, 1, true⟩ [(i : Int)] ∧ I2 G s (matG p k) := by
  obtain ⟨s, G1, e, l, i2⟩ := c_igateMatrix hp hp2 hk (H ++ [deadB])
  have hl := l.len
  rw [List.length_append] at hl
  simp only [List.length_cons, List.length_nil] at hl
  have hd : G1[H.length]? = some deadB := by rw [l.get _ (by simp)]; simp
  have hr : restB (H ++ [ib i]) G1 (H.length + 0) = G1.set H.length (ib i) := by unfold restB; rw [Nat.add_zero]; simp
  have hle : Go.Abs.Le H (G1.set H.length (ib i)) := ⟨by simp; omega, fun b hb => by rw [List.getElem?_set_ne (by omega), l.get b (by simp; omega), List.getElem?_append_left hb]⟩
  refine ⟨s, G1, _, ?_, ?_, hr, hle, ?_, i2.undead hd _⟩
  · rw [Nat.add_zero, app_set]; exact e
  · simp; omega
  · rw [Nat.add_zero]; exact ib_is (set_get hd)
abbrev r4 (p : Int) (n : Nat) : Blk := ⟨ics (rootE p n), .rw, 1⟩
theorem prep_y {p : Int} (hp : 1 ≤ p ∧ p ≤ 1000003) {H : AH} {i : Nat} {z : Sl} (hz : IS H z zG) : ∃ s1 s2 G1 G2 G3 G4 G, R (.fn F.irootElem) [isc p, isc 6] ((H ++ [ib i, resB]).set (H.length + 0) deadB) = some ⟨1, [ssc s1], G1⟩ ∧ decide (G1.length ≥ (H ++ [ib i, resB]).length) = true ∧
    restB (H ++ [ib i, resB]) G1 (H.length + 0) = G2 ∧ R (.fn F.irootElem) [isc p, isc 2] (G2.set (H.length + 0) deadB) = some ⟨1, [ssc s2], G3⟩ ∧ decide (G3.length ≥ G2.length) = true ∧ restB G2 G3 (H.length + 0) = G4 ∧
    newAt G4 (H.length + 1) 1 [.sl z, .sl s1, .sl s2, .sl z] = some (H.length + 1, G) ∧ Go.Abs.Le H G ∧ IS G ⟨H.length + 0, 0, 1, 1, true⟩ [(i : Int)] ∧ I2 G ⟨H.length + 1, 0, 4, 4, true⟩ [zG, rootE p 6, rootE p 2, zG] := by
  have e1 := c_irootElem hp (n := 6) (by omega) (H ++ [deadB, resB])
  have e2 := c_irootElem hp (n := 2) (by omega) (H ++ [deadB, resB, r4 p 6])
  simp only [List.length_append, List.length_cons, List.length_nil, List.append_assoc, List.cons_append, List.nil_append, Nat.zero_add, Nat.add_zero] at e1 e2
  have hle : Go.Abs.Le H (H ++ [ib i, ⟨[.sl z, .sl (row4 (H.length + 2)), .sl (row4 (H.length + 3)), .sl z], .rw, 1⟩, r4 p 6, r4 p 2]) := Go.Abs.Le.app _ _
  have g0 : (H ++ [ib i, ⟨[.sl z, .sl (row4 (H.length + 2)), .sl (row4 (H.length + 3)), .sl z], .rw, 1⟩, r4 p 6, r4 p 2])[H.length]? = some (ib i) := by simp
  have g1 : (H ++ [ib i, ⟨[.sl z, .sl (row4 (H.length + 2)), .sl (row4 (H.length + 3)), .sl z], .rw, 1⟩, r4 p 6, r4 p 2])[H.length + 1]? = some ⟨[.sl z, .sl (row4 (H.length + 2)), .sl (row4 (H.length + 3)), .sl z], .rw, 1⟩ := by simp
  have g2 : (H ++ [ib i, ⟨[.sl z, .sl (row4 (H.length + 2)), .sl (row4 (H.length + 3)), .sl z], .rw, 1⟩, r4 p 6, r4 p 2])[H.length + 2]? = some (r4 p 6) := by simp
  have g3 : (H ++ [ib i, ⟨[.sl z, .sl (row4 (H.length + 2)), .sl (row4 (H.length + 3)), .sl z], .rw, 1⟩, r4 p 6, r4 p 2])[H.length + 3]? = some (r4 p 2) := by simp
  have is4 : ∀ {G : AH} {b n : Nat}, G[b]? = some (r4 p n) → IS G (row4 b) (rootE p n) := fun {G b n} h => by
    have := IS.of_blk (H := G) (b := b) (l := rootE p n) (c := 4) (x := true) h (by rw [rootE_len]; omega)
    rw [rootE_len] at this
    exact this
  refine ⟨row4 (H.length + 2), row4 (H.length + 3), H ++ [deadB, resB, r4 p 6], H ++ [ib i, resB, r4 p 6], H ++ [deadB, resB, r4 p 6, r4 p 2], H ++ [ib i, resB, r4 p 6, r4 p 2], _, ?_, ?_, ?_, ?_, ?_, ?_, ?_, hle, ?_, ?_⟩
  · rw [Nat.add_zero, show (H ++ [ib i, resB]).set H.length deadB = H ++ [deadB, resB] by simp]
    exact e1
  · simp
  · unfold restB; rw [Nat.add_zero]; simp
  · rw [Nat.add_zero, show (H ++ [ib i, resB, r4 p 6]).set H.length deadB = H ++ [deadB, resB, r4 p 6] by simp]
    exact e2
  · simp
  · unfold restB; rw [Nat.add_zero]; simp
  · unfold newAt
    have h1 : isRes (H ++ [ib i, resB, r4 p 6, r4 p 2]) (H.length + 1) = true := by simp [isRes, resB]
    rw [if_pos ⟨h1, by omega⟩]
    simp
  · rw [Nat.add_zero]; exact ib_is g0
  · refine ⟨rfl, Nat.le_refl _, .inr ⟨[.sl z, .sl (row4 (H.length + 2)), .sl (row4 (H.length + 3)), .sl z], by unfold rdB; rw [g1]; rfl, fun j l hj => ?_⟩⟩
    match j, hj with
    | 0, hj => simp at hj; subst hj; exact ⟨z, rfl, hz.le hle⟩
    | 1, hj => simp at hj; subst hj; exact ⟨_, rfl, is4 g2⟩
    | 2, hj => simp at hj; subst hj; exact ⟨_, rfl, is4 g3⟩
    | 3, hj => simp at hj; subst hj; exact ⟨z, rfl, hz.le hle⟩
    | j + 4, hj => simp at hj
end Go.Abs
/- Contracts: an operator is applied to a state (impl), all of it. -/
namespace Go.Abs
set_option linter.all false
set_option maxRecDepth 10000

theorem amG {p : Int} (hv : VRg (omega p) 4) {q i : Nat} (hq : q ≤ 5) (hi : i < q) {x z : Int} {H0 H G : AH} {a b c sq sm : Sl} {L X : List Int} (hl : Go.Abs.Le H G) (hF : Fr H0 H (rows3 a b c ⟨L, twos q, X⟩)) (hT : tensorB (omega p) ⟨L, twos q, X⟩ = true)
    (hQ : IS G sq [(i : Int)]) (hM : I2 G sm (pm p x z)) :
    ∃ a' b' c' H', R (.fn F.iapplyMatrix) [isc p, tpv a b c, ssc sq, ssc sm] G = some ⟨1, [tpv a' b' c'], H'⟩ ∧ Fr H0 H' (rows3 a' b' c' ⟨L, twos q, (amF (omega p) (addP p) (mulP (omega p)) (pm p x z) 2 [(i : Int)] (twos q) X).flatten⟩) ∧ Go.Abs.Le H H' := by
  have hG := hF.ext hl
  have hts : TS G a b c ⟨L, twos q, X⟩ := ⟨hG.is (s := a) (l := L) (by simp [rows3]), hG.is (s := b) (l := twos q) (by simp [rows3]), hG.is (s := c) (l := X) (by simp [rows3])⟩
  obtain ⟨a', b', c', H', e, n⟩ := c_iapplyMatrix (p := p) hv.rc (pm_ok hv hq hi x z) hT rfl hts hQ hM
  exact ⟨a', b', c', H', e, ⟨hG.le.trans n.le, n.rows.low hG.le.len⟩, hl.trans n.le⟩
theorem c_iApplyPauli_0 {p : Int} (hp : primeB p = true) (hp2 : p > 2) {q : Nat} (hq : q ≤ 5) {x z s : Int} (hx : 0 ≤ x ∧ x ≤ 31) (hz : 0 ≤ z ∧ z ≤ 31) {H0 Hz : AH} {sz : Sl} (hsz : IS Hz sz zG) {L : List Int} :
    ∀ (k i : Nat), i + k = q → ∀ (H : AH) (a b c : Sl) (X : List Int), Go.Abs.Le Hz H → Fr H0 H (rows3 a b c ⟨L, twos q, X⟩) → tensorB (omega p) ⟨L, twos q, X⟩ = true →
      ∃ a' b' c' H', R (.loop F.iApplyPauli 0) [isc p, isc (q : Int), ssc sz, isc (i : Int), .agg [.int .i64 x, .int .i64 z, .int .i64 s], tpv a b c] H = some ⟨2, [tpv a' b' c'], H'⟩ ∧ Fr H0 H' (rows3 a' b' c' ⟨L, twos q, paF p q x z k i X⟩) := by
  have hv := om_vr hp hp2
  have hlo := hv.lo; have hhi := hv.hi
  intro k
  induction k with
  | zero =>
    intro i hi H a b c X hZ hF hT
    obtain rfl : i = q := by omega
    exact ⟨a, b, c, H, by rw [R_eq, e_iApplyPauli_0, lt_self]; rfl, hF⟩
  | succ k ih =>
    intro i hi H a b c X hZ hF hT
    have hlt : i < q := by omega
    have hpt := paE_tens hv hq hlt (x := x) (z := z) hT
    have bx := bit_eq (k := x) hx.1 (by omega) (show i ≤ 40 by omega)
    have bz := bit_eq (k := z) hz.1 (by omega) (show i ≤ 40 by omega)
    have rx := bitK_rng x i
    have rz := bitK_rng z i
    simp only [paF]
    by_cases x1 : bitK x i = 1
    · have ex : (bitK x i == 1) = true := by rw [x1]; rfl
      by_cases z1 : bitK z i = 1
      · have ez : (bitK z i == 1) = true := by rw [z1]; rfl
        have hpe : paE p q x z i X = (amF (omega p) (addP p) (mulP (omega p)) (pm p 1 1) 2 [(i : Int)] (twos q) X).flatten := by unfold paE; rw [if_pos (.inl x1), x1, z1]
        rw [hpe] at hpt ⊢
        obtain ⟨s1, s2, G1, G2, G3, G4, G, f1, f2, f3, f4, f5, f6, f7, l, i1, i2⟩ := prep_y (p := p) (by have : 2 ≤ p := hlo; have : p ≤ 1000003 := hhi; omega) (i := i) (hsz.le hZ)
        obtain ⟨a1, b1, c1, H1, e1, F1, lZ⟩ := amG hv hq hlt (x := 1) (z := 1) l hF hT i1 i2
        obtain ⟨a', b', c', H', e2, F2⟩ := ih (i + 1) (by omega) H1 a1 b1 c1 _ (hZ.trans lZ) F1 hpt
        refine ⟨a', b', c', H', ?_, F2⟩
        rw [R_eq, e_iApplyPauli_0, lt_true hlt, w1 hlt (by omega), decide_eq_false (show ¬ (i : Int) < 0 by omega), bx, bz, ex, ez]
        simp only [cond_true, cond_false, Option.bind_some, Nat.beq, n_bool]
        rw [new2]
        simp only [Option.bind_some]
        rw [f1]
        simp only [Option.bind_some, one_sl, f2, cond_true]
        rw [f3, f4]
        simp only [Option.bind_some, one_sl, f5, cond_true]
        rw [f6, f7]
        simp only [Option.bind_some]
        rw [e1]
        simp only [Option.bind_some, o_sss]
        exact e2
      · have ez : (bitK z i == 1) = false := bf z1
        have z0 : bitK z i = 0 := by omega
        have hpe : paE p q x z i X = (amF (omega p) (addP p) (mulP (omega p)) (pm p 1 0) 2 [(i : Int)] (twos q) X).flatten := by unfold paE; rw [if_pos (.inl x1), x1, z0]
        rw [hpe] at hpt ⊢
        obtain ⟨s1, G1, G, f1, f2, f3, l, i1, i2⟩ := prep_gate (k := 1) hp hp2 (by omega) H i
        obtain ⟨a1, b1, c1, H1, e1, F1, lZ⟩ := amG hv hq hlt (x := 1) (z := 0) l hF hT i1 i2
        obtain ⟨a', b', c', H', e2, F2⟩ := ih (i + 1) (by omega) H1 a1 b1 c1 _ (hZ.trans lZ) F1 hpt
        refine ⟨a', b', c', H', ?_, F2⟩
        rw [R_eq, e_iApplyPauli_0, lt_true hlt, w1 hlt (by omega), decide_eq_false (show ¬ (i : Int) < 0 by omega), bx, bz, ex, ez]
        simp only [cond_true, cond_false, Option.bind_some, Nat.beq, n_bool]
        rw [new1]
        simp only [Option.bind_some]
        rw [f1]
        simp only [Option.bind_some, one_sl, f2, cond_true]
        rw [f3, e1]
        simp only [Option.bind_some, o_sss]
        exact e2
    · have ex : (bitK x i == 1) = false := bf x1
      have x0 : bitK x i = 0 := by omega
      by_cases z1 : bitK z i = 1
      · have ez : (bitK z i == 1) = true := by rw [z1]; rfl
        have hpe : paE p q x z i X = (amF (omega p) (addP p) (mulP (omega p)) (pm p 0 1) 2 [(i : Int)] (twos q) X).flatten := by unfold paE; rw [if_pos (.inr z1), x0, z1]
        rw [hpe] at hpt ⊢
        obtain ⟨s1, G1, G, f1, f2, f3, l, i1, i2⟩ := prep_gate (k := 2) hp hp2 (by omega) H i
        obtain ⟨a1, b1, c1, H1, e1, F1, lZ⟩ := amG hv hq hlt (x := 0) (z := 1) l hF hT i1 i2
        obtain ⟨a', b', c', H', e2, F2⟩ := ih (i + 1) (by omega) H1 a1 b1 c1 _ (hZ.trans lZ) F1 hpt
        refine ⟨a', b', c', H', ?_, F2⟩
        rw [R_eq, e_iApplyPauli_0, lt_true hlt, w1 hlt (by omega), decide_eq_false (show ¬ (i : Int) < 0 by omega), bx, bz, ex, ez]
        simp only [cond_true, cond_false, Option.bind_some, Nat.beq, n_bool]
        rw [new1]
        simp only [Option.bind_some]
        rw [f1]
        simp only [Option.bind_some, one_sl, f2, cond_true]
        rw [f3, e1]
        simp only [Option.bind_some, o_sss]
        exact e2
      · have ez : (bitK z i == 1) = false := bf z1
        have hpe : paE p q x z i X = X := by unfold paE; rw [if_neg (by rintro (h | h) <;> contradiction)]
        rw [hpe] at hpt ⊢
        obtain ⟨a', b', c', H', e2, F2⟩ := ih (i + 1) (by omega) H a b c _ hZ hF hpt
        refine ⟨a', b', c', H', ?_, F2⟩
        rw [R_eq, e_iApplyPauli_0, lt_true hlt, w1 hlt (by omega), decide_eq_false (show ¬ (i : Int) < 0 by omega), bx, bz, ex, ez]
        simp only [cond_true, cond_false, Option.bind_some, Nat.beq, n_bool]
        exact e2
/-- The data of a state after an operator. -/
def paX (p : Int) (q : Nat) (x z s : Int) (X : List Int) : List Int :=
  if s = 1 then ((elsT 4 ⟨iota q, twos q, paF p q x z q 0 X⟩).map (mulP (omega p) (rootE p 4))).flatten else paF p q x z q 0 X
def pauB (p : Int) (x z s : Int) (t : Tn) : Bool := stateB p t.L.length t && pauliB t.L.length x z s
/-- What is given back. -/
def pauT (p : Int) (x z s : Int) (t : Tn) : Tn := if pauB p x z s t then ⟨t.L, t.D, paX p t.L.length x z s t.X⟩ else ⟨[], [], []⟩
theorem state_at {p : Int} {q : Nat} {t : Tn} (h : stateB p q t = true) : tensorB (omega p) t = true ∧ 1 ≤ q ∧ q ≤ 5 ∧ t.L = iota q ∧ t.D = twos q := by
  simp only [stateB, Bool.and_eq_true, decide_eq_true_eq, beq_iff_eq] at h
  exact ⟨h.1.1.1, h.1.1.2.1, h.1.1.2.2, h.1.2, h.2⟩
theorem pauli_at {q : Nat} {x z s : Int} (h : pauliB q x z s = true) : (0 ≤ x ∧ x ≤ 31) ∧ (0 ≤ z ∧ z ≤ 31) ∧ (0 ≤ s ∧ s ≤ 1) := by
  simp only [pauliB, Bool.and_eq_true, decide_eq_true_eq, inB] at h
  obtain ⟨⟨⟨⟨h1, h5⟩, hx⟩, hz⟩, hs⟩ := h
  have h32 : 2 ^ q ≤ 2 ^ 5 := Nat.pow_le_pow_right (by omega) h5
  generalize 2 ^ q = m at *
  omega
theorem omega_at {p : Int} {t : Tn} (h : tensorB (omega p) t = true) : primeB p = true ∧ p > 2 := by
  have hr := (tensor_ok h).rg
  have hr : (if (8 : Int) = 1 then _ else if (8 : Int) = 2 then _ else if (8 : Int) = 3 ∨ (8 : Int) = 4 ∨ (8 : Int) = 5 then _ else if (8 : Int) = 6 then _ else if (8 : Int) = 7 then _ else if (8 : Int) = 8 then primeB p && decide (p > 2) && (0 : Int) == 0 else false) = true := hr
  rw [if_neg (by omega), if_neg (by omega), if_neg (by omega), if_neg (by omega), if_neg (by omega), if_pos rfl] at hr
  simp only [Bool.and_eq_true, decide_eq_true_eq] at hr
  exact hr.1
theorem fr_nil3 {H0 H : AH} (h : Go.Abs.Le H0 H) : Fr H0 H (rows3 ⟨0, 0, 0, 0, true⟩ ⟨0, 0, 0, 0, true⟩ ⟨0, 0, 0, 0, true⟩ ⟨[], [], []⟩) := fr3 h 0 0 0
theorem calc_iApplyPauli1 {p x z s : Int} {q : Nat} {H H1 H2 H3 H4 : AH} {a b c a1 b1 c1 a2 b2 c2 a3 b3 c3 r : Sl} (hq : a.n = q) (hs : (s == 1) = true)
    (e0 : R (.fn F.istateOk) [isc p, isc (q : Int), tpv a b c] H = some ⟨1, [bsc true], H1⟩)
    (e1 : R (.fn F.iPauliOk) [isc (q : Int), .agg [.int .i64 x, .int .i64 z, .int .i64 s]] H1 = some ⟨1, [bsc true], H1⟩)
    (e2 : R (.fn F.icopyTensor) [tpv a b c] H1 = some ⟨1, [tpv a1 b1 c1], H2⟩)
    (m : mkB H2 1 8 [.int .i64 0] 4 4 = some (r, H3)) {H5 : AH}
    (e3 : R (.loop F.iApplyPauli 0) [isc p, isc (q : Int), ssc r, isc 0, .agg [.int .i64 x, .int .i64 z, .int .i64 s], tpv a1 b1 c1] H3 = some ⟨2, [tpv a2 b2 c2], H4⟩) {u : Sl} {H6 : AH}
    (e4 : R (.fn F.irootElem) [isc p, isc 4] H4 = some ⟨1, [ssc u], H5⟩)
    (e5 : R (.fn F.iScaleTensor) [(omega p).pv, tpv a2 b2 c2, ssc u] H5 = some ⟨1, [tpv a3 b3 c3], H6⟩) :
    R (.fn F.iApplyPauli) [isc p, .agg [.int .i64 x, .int .i64 z, .int .i64 s], tpv a b c] H = some ⟨1, [tpv a3 b3 c3, bsc true], H6⟩ := by
  rw [R_eq, e_iApplyPauli, hq, e0]
  simp only [Option.bind_some, one_bool, Bool.not_true, cond_false]
  rw [e1]
  simp only [Option.bind_some, one_bool, Bool.not_true, cond_false]
  rw [e2]
  simp only [Option.bind_some, o_sss]
  rw [m]
  simp only [Option.bind_some]
  rw [e3]
  simp only [Option.bind_some, Nat.beq, cond_true, agg3z, hs]
  rw [c_iomegaRing]
  simp only [Option.bind_some, Rg.pv, o_iii]
  rw [e4]
  simp only [Option.bind_some, one_sl]
  rw [e5]
  simp only [Option.bind_some, o_sss]
theorem calc_iApplyPauli0 {p x z s : Int} {q : Nat} {H H1 H2 H3 H4 : AH} {a b c a1 b1 c1 a2 b2 c2 r : Sl} (hq : a.n = q) (hs : (s == 1) = false)
    (e0 : R (.fn F.istateOk) [isc p, isc (q : Int), tpv a b c] H = some ⟨1, [bsc true], H1⟩)
    (e1 : R (.fn F.iPauliOk) [isc (q : Int), .agg [.int .i64 x, .int .i64 z, .int .i64 s]] H1 = some ⟨1, [bsc true], H1⟩)
    (e2 : R (.fn F.icopyTensor) [tpv a b c] H1 = some ⟨1, [tpv a1 b1 c1], H2⟩)
    (m : mkB H2 1 8 [.int .i64 0] 4 4 = some (r, H3))
    (e3 : R (.loop F.iApplyPauli 0) [isc p, isc (q : Int), ssc r, isc 0, .agg [.int .i64 x, .int .i64 z, .int .i64 s], tpv a1 b1 c1] H3 = some ⟨2, [tpv a2 b2 c2], H4⟩) :
    R (.fn F.iApplyPauli) [isc p, .agg [.int .i64 x, .int .i64 z, .int .i64 s], tpv a b c] H = some ⟨1, [tpv a2 b2 c2, bsc true], H4⟩ := by
  rw [R_eq, e_iApplyPauli, hq, e0]
  simp only [Option.bind_some, one_bool, Bool.not_true, cond_false]
  rw [e1]
  simp only [Option.bind_some, one_bool, Bool.not_true, cond_false]
  rw [e2]
  simp only [Option.bind_some, o_sss]
  rw [m]
  simp only [Option.bind_some]
  rw [e3]
  simp only [Option.bind_some, Nat.beq, cond_true, agg3z, hs, cond_false]
/-- impl.ApplyPauli -/
theorem c_iApplyPauli {p x z s : Int} {H : AH} {a b c : Sl} {t : Tn} (h : TS H a b c t) (hl : t.L.length ≤ 1048576) :
    ∃ a' b' c' H', R (.fn F.iApplyPauli) [isc p, .agg [.int .i64 x, .int .i64 z, .int .i64 s], tpv a b c] H = some ⟨1, [tpv a' b' c', bsc (pauB p x z s t)], H'⟩ ∧ Fr H H' (rows3 a' b' c' (pauT p x z s t)) := by
  obtain ⟨H1, e0, l1⟩ := c_istateOk (p := p) (q := t.L.length) h hl
  have e1 : R (.fn F.iPauliOk) [isc (t.L.length : Int), .agg [.int .i64 x, .int .i64 z, .int .i64 s]] H1 = _ := c_iPauliOk
  unfold pauT pauB
  cases hs : stateB p t.L.length t with
  | false =>
    rw [hs] at e0
    refine ⟨_, _, _, H1, ?_, fr_nil3 l1⟩
    rw [R_eq, e_iApplyPauli, h.L.n, e0]
    rfl
  | true =>
    rw [hs] at e0
    cases hu : pauliB t.L.length x z s with
    | false =>
      rw [hu] at e1
      refine ⟨_, _, _, H1, ?_, fr_nil3 l1⟩
      rw [R_eq, e_iApplyPauli, h.L.n, e0]
      simp only [Option.bind_some, one_bool, Bool.not_true, cond_false]
      rw [e1]
      rfl
    | true =>
      rw [hu] at e1
      obtain ⟨hT, h1, h5, hL, hD⟩ := state_at hs
      obtain ⟨hx, hz, hsr⟩ := pauli_at hu
      obtain ⟨hp, hp2⟩ := omega_at hT
      have hv := om_vr hp hp2
      have hlo : 2 ≤ p := hv.lo
      have hhi : p ≤ 1000003 := hv.hi
      generalize hq : t.L.length = q at *
      obtain ⟨L, D, X⟩ := t
      simp only at hL hD hq
      subst hL hD
      obtain ⟨a1, b1, c1, H2, e2, n2⟩ := n_icopyTensor (h.le l1) (ok_small hT)
      have F2 : Fr H H2 (rows3 a1 b1 c1 ⟨iota q, twos q, X⟩) := ⟨l1.trans n2.le, n2.rows.low l1.len⟩
      have hm : mkB H2 1 8 [.int .i64 0] 4 4 = some (⟨H2.length, 0, 4, 4, true⟩, H2 ++ [⟨ics (List.replicate 4 0), .rw, 1⟩]) := mk_ints (n := 4) (by omega)
      have l3 := Go.Abs.Le.app H2 [⟨ics (List.replicate 4 0), .rw, 1⟩]
      have iz : IS (H2 ++ [⟨ics (List.replicate 4 0), .rw, 1⟩]) ⟨H2.length, 0, 4, 4, true⟩ zG := IS.of_blk (l := zG) app_get (Nat.le_refl _)
      obtain ⟨a2, b2, c2, H4, e3, F4⟩ := c_iApplyPauli_0 (s := s) hp hp2 h5 hx hz iz (L := iota q) q 0 (by omega) _ a1 b1 c1 X (Go.Abs.Le.refl _) (F2.ext l3) hT
      have e3 : R (.loop F.iApplyPauli 0) [isc p, isc (q : Int), ssc ⟨H2.length, 0, 4, 4, true⟩, isc 0, .agg [.int .i64 x, .int .i64 z, .int .i64 s], tpv a1 b1 c1] _ = _ := e3
      have hT4 := paF_tens hv h5 (x := x) (z := z) (k := q) (i := 0) (by omega) hT
      have ts4 : TS H4 a2 b2 c2 ⟨iota q, twos q, paF p q x z q 0 X⟩ := ⟨F4.is (s := a2) (l := iota q) (by simp [rows3]), F4.is (s := b2) (l := twos q) (by simp [rows3]), F4.is (s := c2) (l := paF p q x z q 0 X) (by simp [rows3])⟩
      have hqn : a.n = q := by rw [h.L.n]; simp
      simp only [Bool.true_and, if_true]
      by_cases s1 : s = 1
      · have er := c_irootElem (p := p) (n := 4) (by omega) (by omega) H4
        have l5 := Go.Abs.Le.app H4 [⟨ics (rootE p 4), .rw, 1⟩]
        have iu : IS (H4 ++ [⟨ics (rootE p 4), .rw, 1⟩]) (row4 H4.length) (rootE p 4) := by
          have := IS.of_blk (H := H4 ++ [⟨ics (rootE p 4), .rw, 1⟩]) (b := H4.length) (l := rootE p 4) (c := 4) (x := true) app_get (by rw [rootE_len]; omega)
          rw [rootE_len] at this
          exact this
        obtain ⟨a3, b3, c3, H6, e5, n6⟩ := c_iScaleTensor hv hT4 (ts4.le l5) iu (root_in hlo 4)
        refine ⟨a3, b3, c3, H6, calc_iApplyPauli1 hqn (by rw [s1]; rfl) e0 e1 e2 hm e3 er e5, ?_⟩
        have hle := F4.le.trans l5
        unfold paX
        rw [if_pos s1]
        exact ⟨hle.trans n6.le, n6.rows.low hle.len⟩
      · refine ⟨a2, b2, c2, H4, calc_iApplyPauli0 hqn (bf s1) e0 e1 e2 hm e3, ?_⟩
        unfold paX
        rw [if_neg s1]
        exact F4
end Go.Abs
/- Contracts: an operator is applied to a state (spec). -/
namespace Go.Abs
set_option linter.all false
set_option maxRecDepth 10000

theorem n_int1 (m : Int) {α : Type} (k : Int → Option α) : ((nthP [isc m] 0).bind fun p => p.sc?.bind fun c => (intAt .i64 [c] 0).bind k) = k m := rfl
/-- An index turned by an operator, and the power of the root. -/
def flP (x z : Int) : Nat → Nat → List Int → Int → List Int × Int
  | 0, _, I, w => (I, w)
  | k + 1, i, I, w => flP x z k (i + 1) (if bitK x i = 1 then I.set i (1 - I.getD i 0) else I) (w + 4 * I.getD i 0 * bitK z i + 2 * bitK x i * bitK z i)
theorem flP_fits {x z : Int} {q : Nat} : ∀ (k i : Nat) (I : List Int) (w : Int), i + k ≤ q → fitsI (twos q) I → fitsI (twos q) (flP x z k i I w).1
  | 0, _, _, _, _, h => h
  | k + 1, i, I, w, hi, h => by
    simp only [flP]
    refine flP_fits k (i + 1) _ _ (by omega) ?_
    split
    · obtain ⟨h1, h2⟩ := fits_twos.1 h
      have hil : i < I.length := by omega
      have hv := h2 _ (List.getElem_mem hil)
      have hd : I.getD i 0 = I[i] := by rw [List.getD_eq_getElem?_getD, List.getElem?_eq_getElem hil]; rfl
      refine fits_twos.2 ⟨by simpa using h1, fun v hv' => ?_⟩
      rcases List.mem_or_eq_of_mem_set hv' with hm | rfl
      · exact h2 v hm
      · rw [hd]; omega
    · exact h
theorem mul_01 {a b : Int} (ha : 0 ≤ a ∧ a < 2) (hb : 0 ≤ b ∧ b < 2) : 0 ≤ a * b ∧ a * b ≤ 1 := by
  have : a = 0 ∨ a = 1 := by omega
  rcases this with rfl | rfl <;> simp <;> omega
theorem step_01 {a x z : Int} (ha : 0 ≤ a ∧ a < 2) (hx : 0 ≤ x ∧ x < 2) (hz : 0 ≤ z ∧ z < 2) : 0 ≤ 4 * a * z ∧ 4 * a * z ≤ 4 ∧ 0 ≤ 2 * x * z ∧ 2 * x * z ≤ 2 := by
  have h1 := mul_01 ha hz
  have h2 := mul_01 hx hz
  rw [Int.mul_assoc, Int.mul_assoc]
  omega
theorem flP_rng {x z : Int} {q : Nat} : ∀ (k i : Nat) (I : List Int) (w : Int), i + k ≤ q → fitsI (twos q) I → 0 ≤ w → 0 ≤ (flP x z k i I w).2 ∧ (flP x z k i I w).2 ≤ w + 6 * k
  | 0, _, _, w, _, _, hw => ⟨hw, by simp [flP]⟩
  | k + 1, i, I, w, hi, h, hw => by
    simp only [flP]
    obtain ⟨h1, h2⟩ := fits_twos.1 h
    have hil : i < I.length := by omega
    have hv := h2 _ (List.getElem_mem hil)
    have hd : I.getD i 0 = I[i] := by rw [List.getD_eq_getElem?_getD, List.getElem?_eq_getElem hil]; rfl
    have hs := step_01 hv (bitK_rng x i) (bitK_rng z i)
    have hf := flP_fits (x := x) (z := z) 1 i I w (by omega) h
    simp only [flP] at hf
    have := flP_rng (x := x) (z := z) k (i + 1) _ (w + 4 * I.getD i 0 * bitK z i + 2 * bitK x i * bitK z i) (by omega) hf (by rw [hd]; omega)
    rw [hd] at this ⊢
    omega
theorem c_sApplyPauli_1 {x z s : Int} (hx : 0 ≤ x ∧ x ≤ 31) (hz : 0 ≤ z ∧ z ≤ 31) {q : Nat} (hq : q ≤ 5) {H0 : AH} {si : Sl} {rs : List Row} :
    ∀ (k i : Nat), i + k = q → ∀ (H : AH) (I : List Int) (w : Int), Fr H0 H ((si, I) :: rs) → fitsI (twos q) I → 0 ≤ w → w ≤ 100 + 6 * (i : Int) →
      ∃ H', R (.loop F.sApplyPauli 1) [ssc si, isc w, ssc si, isc (q : Int), isc (i : Int), .agg [.int .i64 x, .int .i64 z, .int .i64 s]] H = some ⟨4, [isc (flP x z k i I w).2], H'⟩ ∧ Fr H0 H' ((si, (flP x z k i I w).1) :: rs) := by
  intro k
  induction k with
  | zero =>
    intro i hi H I w hF hI h0 h1
    obtain rfl : i = q := by omega
    exact ⟨H, by rw [R_eq, e_sApplyPauli_1, lt_self]; rfl, hF⟩
  | succ k ih =>
    intro i hi H I w hF hI h0 h1
    have hlt : i < q := by omega
    obtain ⟨f1, f2⟩ := fits_twos.1 hI
    have hil : i < I.length := by omega
    have hv := f2 _ (List.getElem_mem hil)
    have hd : I.getD i 0 = I[i] := by rw [List.getD_eq_getElem?_getD, List.getElem?_eq_getElem hil]; rfl
    have hIn : I ≠ [] := fun e => by rw [e] at hil; simp at hil
    have rx := bitK_rng x i
    have rz := bitK_rng z i
    have hs := step_01 hv rx rz
    have bx := bit_eq (k := x) hx.1 (by omega) (show i ≤ 40 by omega)
    have bz := bit_eq (k := z) hz.1 (by omega) (show i ≤ 40 by omega)
    have w1' : IntKind.wrap .i64 (4 * I[i]) = 4 * I[i] := by rw [wrap_id] <;> omega
    have w2' : IntKind.wrap .i64 (4 * I[i] * bitK z i) = 4 * I[i] * bitK z i := by rw [wrap_id] <;> omega
    have w3' : IntKind.wrap .i64 (w + 4 * I[i] * bitK z i) = w + 4 * I[i] * bitK z i := by rw [wrap_id] <;> omega
    have w4' : IntKind.wrap .i64 (2 * bitK x i) = 2 * bitK x i := by rw [wrap_id] <;> omega
    have w5' : IntKind.wrap .i64 (2 * bitK x i * bitK z i) = 2 * bitK x i * bitK z i := by rw [wrap_id] <;> omega
    have w6' : IntKind.wrap .i64 (w + 4 * I[i] * bitK z i + 2 * bitK x i * bitK z i) = w + 4 * I[i] * bitK z i + 2 * bitK x i * bitK z i := by rw [wrap_id] <;> omega
    have w7' : IntKind.wrap .i64 (1 - I[i]) = 1 - I[i] := by rw [wrap_id] <;> omega
    have oI := hF.own (s := si) (l := I) (by simp)
    have hf := flP_fits (x := x) (z := z) 1 i I w (by omega) hI
    simp only [flP, hd] at hf ⊢
    have hcommon : R (.loop F.sApplyPauli 1) [ssc si, isc w, ssc si, isc (q : Int), isc (i : Int), .agg [.int .i64 x, .int .i64 z, .int .i64 s]] H =
        cond (bitK x i == 1) ((ixA si (i : Int) 1).bind fun o45 => (putR H si.b o45 [.int .i64 (1 - I[i])]).bind fun H46 => R (.loop F.sApplyPauli 1) [ssc si, isc (w + 4 * I[i] * bitK z i + 2 * bitK x i * bitK z i), ssc si, isc (q : Int), isc ((i + 1 : Nat) : Int), .agg [.int .i64 x, .int .i64 z, .int .i64 s]] H46)
          (R (.loop F.sApplyPauli 1) [ssc si, isc (w + 4 * I[i] * bitK z i + 2 * bitK x i * bitK z i), ssc si, isc (q : Int), isc ((i + 1 : Nat) : Int), .agg [.int .i64 x, .int .i64 z, .int .i64 s]] H) := by
      rw [R_eq, e_sApplyPauli_1, lt_true hlt, w1 hlt (by omega), cond_true, oI.is.ldk hil, decide_eq_false (show ¬ (i : Int) < 0 by omega), bx, bz, w1', w2', w3', w4', w5', w6', w7']
      simp only [cond_false]
    by_cases x1 : bitK x i = 1
    · rw [if_pos x1] at hf ⊢
      have hF' := Fr.mut [] hF (Mut.set (l' := I.set i (1 - I[i])) oI hIn (by simp)) (fun e => absurd e hIn)
      obtain ⟨H', e, F'⟩ := ih (i + 1) (by omega) _ _ (w + 4 * I[i] * bitK z i + 2 * bitK x i * bitK z i) hF' hf (by omega) (by omega)
      refine ⟨H', ?_, F'⟩
      have hp := put_own (n := I.length) (x := si.x) (oI.blk' hIn) hil hil (1 - I[i]) (fun H46 => R (.loop F.sApplyPauli 1) [ssc si, isc (w + 4 * I[i] * bitK z i + 2 * bitK x i * bitK z i), ssc si, isc (q : Int), isc ((i + 1 : Nat) : Int), .agg [.int .i64 x, .int .i64 z, .int .i64 s]] H46)
      rw [← oI.eta] at hp
      rw [hcommon, show (bitK x i == 1) = true by rw [x1]; rfl, cond_true, hp]
      exact e
    · rw [if_neg x1] at hf ⊢
      obtain ⟨H', e, F'⟩ := ih (i + 1) (by omega) _ _ (w + 4 * I[i] * bitK z i + 2 * bitK x i * bitK z i) hF hf (by omega) (by omega)
      refine ⟨H', ?_, F'⟩
      rw [hcommon, bf x1, cond_false]
      exact e
def flN (q : Nat) (x z s : Int) (n : Nat) : List Int × Int := flP x z q 0 (idxF (twos q) (n : Int)) (4 * s)
/-- The elements as they are put. -/
def spF (p : Int) (q : Nat) (x z s : Int) (X : List Int) : Nat → Nat → List (List Int) → List (List Int)
  | 0, _, E => E
  | k + 1, n, E => spF p q x z s X k (n + 1) (E.set (offF (twos q) (flN q x z s n).1).toNat (mulP (omega p) (rootE p ((flN q x z s n).2.toNat % 8)) (getE 4 X n)))
theorem c_sApplyPauli_0 {p : Int} (hp : primeB p = true) (hp2 : p > 2) {x z s : Int} (hx : 0 ≤ x ∧ x ≤ 31) (hz : 0 ≤ z ∧ z ≤ 31) (hs : 0 ≤ s ∧ s ≤ 1) {q : Nat} (hq : q ≤ 5) {H0 : AH} {ya yb yc a b c : Sl} {L X : List Int} {rs : List Row}
    (hy : TS H0 ya yb yc ⟨L, twos q, X⟩) (hT : tensorB (omega p) ⟨L, twos q, X⟩ = true) :
    ∀ (k n : Nat), n + k = 2 ^ q → ∀ (H : AH) (E : List (List Int)), Fr H0 H ((c, E.flatten) :: rs) → E.length = 2 ^ q → (∀ e ∈ E, VE (omega p) e) →
      ∃ H', R (.loop F.sApplyPauli 0) [isc (q : Int), isc (n : Int), .agg [.int .i64 x, .int .i64 z, .int .i64 s], tpv ya yb yc, (omega p).pv, tpv a b c] H = some ⟨2, [], H'⟩ ∧ Fr H0 H' ((c, (spF p q x z s X k n E).flatten) :: rs) := by
  have hv := om_vr hp hp2
  have hlo : 2 ≤ p := hv.lo
  have hq32 : 2 ^ q ≤ 32 := by
    have : 2 ^ q ≤ 2 ^ 5 := Nat.pow_le_pow_right (by omega) hq
    omega
  have hpr : prd (twos q) = ((2 ^ q : Nat) : Int) := prd_twos q
  have hge : ∀ d ∈ twos q, (1 : Int) ≤ d := fun d hd => by rw [List.eq_of_mem_replicate hd]; omega
  intro k
  induction k with
  | zero =>
    intro n hn H E hF hE hve
    refine ⟨H, ?_, hF⟩
    rw [R_eq, e_sApplyPauli_0, decide_eq_false (show ¬ (q : Int) < 0 by omega), cond_false, shlL_one (by omega), decide_eq_false (by omega), cond_false]
  | succ k ih =>
    intro n hn H E hF hE hve
    have hlt : n < 2 ^ q := by omega
    have e1 := c_sl05Index (n := (n : Int)) (hy.D.le hF.le) (by simp; omega) hge (by omega) (by omega)
    have F1 := hF.newN (new_app H (idxF (twos q) (n : Int)))
    have hfit : fitsI (twos q) (idxF (twos q) (n : Int)) := idxF_fits hge
    obtain ⟨H2, e2, F2⟩ := c_sApplyPauli_1 (s := s) hx hz hq q 0 (by omega) _ _ (4 * s) F1 hfit (by omega) (by omega)
    have e2 : R (.loop F.sApplyPauli 1) [ssc (rowAt H.length (idxF (twos q) (n : Int))), isc (4 * s), ssc (rowAt H.length (idxF (twos q) (n : Int))), isc (q : Int), isc 0, .agg [.int .i64 x, .int .i64 z, .int .i64 s]] _ = some ⟨4, [isc (flN q x z s n).2], H2⟩ := e2
    have F2 : Fr H0 H2 ((rowAt H.length (idxF (twos q) (n : Int)), (flN q x z s n).1) :: (c, E.flatten) :: rs) := F2
    have hfl : fitsI (twos q) (flN q x z s n).1 := flP_fits q 0 _ _ (by omega) hfit
    have hfr : 0 ≤ (flN q x z s n).2 ∧ (flN q x z s n).2 ≤ 4 * s + 6 * q := flP_rng q 0 _ (4 * s) (by omega) hfit (by omega)
    obtain ⟨w, hw⟩ : ∃ w : Nat, (flN q x z s n).2 = (w : Int) := ⟨_, (Int.toNat_of_nonneg hfr.1).symm⟩
    rw [hw] at e2 hfr
    have hor := offF_range hfl
    obtain ⟨o, ho⟩ : ∃ o : Nat, offF (twos q) (flN q x z s n).1 = (o : Int) := ⟨_, (Int.toNat_of_nonneg hor.1).symm⟩
    rw [ho, hpr] at hor
    have l3 := Go.Abs.Le.app H2 [⟨ics (rootE p 1), .rw, 1⟩]
    have iw : IS (H2 ++ [⟨ics (rootE p 1), .rw, 1⟩]) ⟨H2.length, 0, 4, 4, true⟩ (rootE p 1) := by
      have := IS.of_blk (H := H2 ++ [⟨ics (rootE p 1), .rw, 1⟩]) (b := H2.length) (l := rootE p 1) (c := 4) (x := true) app_get (by rw [rootE_len]; omega)
      rw [rootE_len] at this
      exact this
    obtain ⟨su, H4, e4, l4, i4⟩ := c_sPowElem hv iw (n := w) (by omega)
    have l24 := l3.trans l4
    have F4 := F2.ext l24
    have e5 := c_sl05Offset (hy.D.le F4.le) (F4.is (s := rowAt H.length (idxF (twos q) (n : Int))) (l := (flN q x z s n).1) (by simp)) hfl (by simp; omega) hge (show prd (twos q) ≤ _ by omega)
    rw [ho] at e5
    obtain ⟨sg, H5, e6, l5, i5, v5⟩ := get_elem (x := ya) (y := yb) (w := 4) rfl (hy.X.le F4.le) hT (n := n) (by show (n : Int) < prd (twos q); omega)
    have hgi := hv.ve.1 v5
    have e7 := c_sl02Mul_v hv (i4.le l5) i5 (root_in hlo _) hgi
    have vM := hv.alg.m (hv.ve.2 (root_in hlo (w % 8))) v5
    have hMl : (mulP (omega p) (rootE p (w % 8)) (getE 4 X n)).length = 4 := (hv.ve.1 vM).1
    have l6 := Go.Abs.Le.app H5 [⟨ics (mulP (omega p) (rootE p (w % 8)) (getE 4 X n)), .rw, 1⟩]
    have F6 := (F4.ext l5).ext l6
    have hEu := ve_uni (r := omega p) (w := 4) rfl hve
    have hEne := flat_ne hEu (by omega) (by omega)
    have oC := F6.own (s := c) (l := E.flatten) (by simp)
    have oC5 := (F4.ext l5).own (s := c) (l := E.flatten) (by simp)
    have i7 : IS (H5 ++ [⟨ics (mulP (omega p) (rootE p (w % 8)) (getE 4 X n)), .rw, 1⟩]) ⟨H5.length, 0, 4, 4, true⟩ (mulP (omega p) (rootE p (w % 8)) (getE 4 X n)) := by
      have := IS.of_blk (H := H5 ++ [⟨ics (mulP (omega p) (rootE p (w % 8)) (getE 4 X n)), .rw, 1⟩]) (b := H5.length) (l := mulP (omega p) (rootE p (w % 8)) (getE 4 X n)) (c := 4) (x := true) app_get (by omega)
      rw [hMl] at this
      exact this
    obtain ⟨H7, e8, m8⟩ := m_sl05Put (r := omega p) (a := a) (b := b) (n := o) (w := 4) rfl (by omega) hEu (by omega) hMl oC i7 (fun e => by
      have e : H5.length = c.b := e
      have := oC5.lt hEne
      omega) (by omega)
    have F7 := Fr.mut [(rowAt H.length (idxF (twos q) (n : Int)), (flN q x z s n).1)] (ys := rs) F6 m8 (fun e => absurd e hEne)
    have hv' : ∀ e ∈ E.set o (mulP (omega p) (rootE p (w % 8)) (getE 4 X n)), VE (omega p) e := fun e he => by
      rcases List.mem_or_eq_of_mem_set he with he | rfl
      · exact hve e he
      · exact vM
    obtain ⟨H', e9, F9⟩ := ih (n + 1) (by omega) H7 _ (F7.sub (List.sublist_cons_self _ _)) (by simpa using hE) hv'
    refine ⟨H', ?_, ?_⟩
    · have hw4 : IntKind.wrap .i64 (4 * s) = 4 * s := by rw [wrap_id] <;> omega
      have hil : (idxF (twos q) (n : Int)).length = q := (fits_twos.1 hfit).1
      rw [R_eq, e_sApplyPauli_0, decide_eq_false (show ¬ (q : Int) < 0 by omega), cond_false, shlL_one (by omega), decide_eq_true (by omega), cond_true, e1]
      simp only [Option.bind_some, one_sl]
      rw [hw4, hil, e2]
      simp only [Option.bind_some, Nat.beq, cond_true, n_int1]
      rw [show newB H2 1 [.int .i64 0, .int .i64 1, .int .i64 0, .int .i64 0] = some (H2.length, H2 ++ [⟨ics (rootE p 1), .rw, 1⟩]) from rfl]
      simp only [Option.bind_some]
      rw [show R (.fn F.sPowElem) [.agg [.int .i64 (omega p).k, .int .i64 (omega p).p, .int .i64 (omega p).n], .sc (.sl ⟨H2.length, 0, 4, 4, true⟩), .sc (.int .i64 (w : Int))] (H2 ++ [⟨ics (rootE p 1), .rw, 1⟩]) = _ from e4]
      simp only [Option.bind_some, one_sl]
      rw [e5]
      simp only [Option.bind_some, one_int]
      rw [show R (.fn F.sl05Get) [.agg [.int .i64 (omega p).k, .int .i64 (omega p).p, .int .i64 (omega p).n], .agg [.sl ya, .sl yb, .sl yc], .sc (.int .i64 (n : Int))] H4 = _ from e6]
      simp only [Option.bind_some, one_sl]
      rw [show R (.fn F.sl02Mul) [.agg [.int .i64 (omega p).k, .int .i64 (omega p).p, .int .i64 (omega p).n], .sc (.sl su), .sc (.sl sg)] H5 = _ from e7]
      simp only [Option.bind_some, one_sl]
      rw [show R (.fn F.sl05Put) [.agg [.int .i64 (omega p).k, .int .i64 (omega p).p, .int .i64 (omega p).n], .agg [.sl a, .sl b, .sl c], .sc (.int .i64 (o : Int)), .sc (.sl ⟨H5.length, 0, 4, 4, true⟩)] _ = _ from e8]
      simp only [Option.bind_some]
      rw [w1 (n := 2 ^ q) hlt (by omega)]
      exact e9
    · simp only [spF, ho, hw, Int.toNat_natCast]
      exact F9
end Go.Abs
/- Operators on states: both ways give the same. -/
namespace Go.Abs
set_option linter.all false
set_option maxRecDepth 10000

/-- The element at an index. -/
def eI (q : Nat) (X I : List Int) : List Int := getE 4 X (offF (twos q) I).toNat
def flB (x b : Int) : Int := if x = 1 then 1 - b else b
def kkB (x z b : Int) : Nat := (4 * flB x b * z + 2 * x * z).toNat
theorem twos_ge (q : Nat) : ∀ d ∈ twos q, (1 : Int) ≤ d := fun d hd => by rw [List.eq_of_mem_replicate hd]; omega
theorem prd_tw (q : Nat) : prd (twos q) = ((2 ^ q : Nat) : Int) := prd_twos q
theorem eI_in {p : Int} (hv : VRg (omega p) 4) {q : Nat} {L X I : List Int} (hT : tensorB (omega p) ⟨L, twos q, X⟩ = true) (hI : fitsI (twos q) I) : inP p 4 (eI q X I) := by
  have hr := offF_range hI
  have := getE_ve hT (n := (offF (twos q) I).toNat) (by show _ < prd (twos q); omega)
  exact hv.ve.1 this
theorem set_fits {q i : Nat} {I : List Int} (h : fitsI (twos q) I) {v : Int} (hv : 0 ≤ v ∧ v < 2) : fitsI (twos q) (I.set i v) := by
  obtain ⟨h1, h2⟩ := fits_twos.1 h
  refine fits_twos.2 ⟨by simpa using h1, fun w hw => ?_⟩
  rcases List.mem_or_eq_of_mem_set hw with hm | rfl
  · exact h2 w hm
  · exact hv
theorem set_get_self' {I : List Int} {i : Nat} (h : i < I.length) : I.set i I[i] = I := List.set_getElem_self h
/-- One operator's matrix: an element is turned. -/
theorem am_el {p : Int} (hv : VRg (omega p) 4) {q i : Nat} (hi : i < q) {L X I : List Int} (hT : tensorB (omega p) ⟨L, twos q, X⟩ = true) (hI : fitsI (twos q) I) {b : Int} (hb : I[i]? = some b) {x z : Int} (hx : x = 0 ∨ x = 1) (hz : z = 0 ∨ z = 1) (hxz : x = 1 ∨ z = 1) :
    amE (omega p) (addP p) (mulP (omega p)) (pm p x z) 2 [(i : Int)] (twos q) X (offF (twos q) I).toNat = rotN p (kkB x z b) (eI q X (I.set i (flB x b))) := by
  have hlo : 2 ≤ p := hv.lo
  have hr := offF_range hI
  have hid : idxF (twos q) ((offF (twos q) I).toNat : Int) = I := by rw [Int.toNat_of_nonneg hr.1, idxF_off hI]
  obtain ⟨f1, f2⟩ := fits_twos.1 hI
  have hil : i < I.length := by omega
  have hbi : I[i] = b := by rw [List.getElem?_eq_getElem hil] at hb; exact Option.some.inj hb
  have hb2 : b = 0 ∨ b = 1 := by have := f2 _ (List.getElem_mem hil); omega
  have hgd : I.getD i 0 = b := by rw [List.getD_eq_getElem?_getD, hb]; rfl
  have e0 := eI_in hv hT (set_fits (i := i) hI (v := 0) (by omega))
  have e1 := eI_in hv hT (set_fits (i := i) hI (v := 1) (by omega))
  have hz0 : inP p 4 zG := inP.rep (show 0 < p by omega) 4
  have hzr : zeroR (omega p) = zG := rfl
  have hwr : (widthR (omega p)).toNat = 4 := rfl
  unfold amE
  rw [hid, hzr, hwr]
  have hrow : (rowF I [(i : Int)] 0).toNat = b.toNat := by
    simp only [rowF, Int.toNat_natCast, hgd]
    omega
  rw [hrow]
  simp only [amC, List.length_cons, List.length_nil, setF, Int.toNat_natCast, List.set_set]
  have b0 : bitK ((0 : Nat) : Int) (0 + 1 - 1 - 0) = 0 := rfl
  have b1 : bitK ((0 + 1 : Nat) : Int) (0 + 1 - 1 - 0) = 1 := rfl
  rw [b0, b1]
  show addP p (addP p zG (mulP (omega p) _ (eI q X (I.set i 0)))) (mulP (omega p) _ (eI q X (I.set i 1))) = _
  have mo : ∀ {y : List Int}, inP p 4 y → mulP (omega p) oG y = y := fun {y} hy => mul_root hv hy (k := 0) (by omega)
  have mz : ∀ {y : List Int}, inP p 4 y → mulP (omega p) zG y = zG := fun {y} hy => mul_zero hv hy
  rcases hx with rfl | rfl
  · have hz1 : z = 1 := by omega
    subst hz1
    rcases hb2 with rfl | rfl
    · show addP p (addP p zG (mulP (omega p) oG (eI q X (I.set i 0)))) (mulP (omega p) zG (eI q X (I.set i 1))) = eI q X (I.set i 0)
      rw [mo e0, mz e1, add_zero_l e0, add_zero_r e0]
    · show addP p (addP p zG (mulP (omega p) zG (eI q X (I.set i 0)))) (mulP (omega p) (rootE p 4) (eI q X (I.set i 1))) = rotN p 4 (eI q X (I.set i 1))
      rw [mz e0, mul_root hv e1 (by omega), add_zero_l hz0, add_zero_l (rotN_in e1 4)]
  · rcases hz with rfl | rfl
    · rcases hb2 with rfl | rfl
      · show addP p (addP p zG (mulP (omega p) zG (eI q X (I.set i 0)))) (mulP (omega p) oG (eI q X (I.set i 1))) = eI q X (I.set i 1)
        rw [mz e0, mo e1, add_zero_l hz0, add_zero_l e1]
      · show addP p (addP p zG (mulP (omega p) oG (eI q X (I.set i 0)))) (mulP (omega p) zG (eI q X (I.set i 1))) = eI q X (I.set i 0)
        rw [mo e0, mz e1, add_zero_l e0, add_zero_r e0]
    · rcases hb2 with rfl | rfl
      · show addP p (addP p zG (mulP (omega p) zG (eI q X (I.set i 0)))) (mulP (omega p) (rootE p 6) (eI q X (I.set i 1))) = rotN p 6 (eI q X (I.set i 1))
        rw [mz e0, mul_root hv e1 (by omega), add_zero_l hz0, add_zero_l (rotN_in e1 6)]
      · show addP p (addP p zG (mulP (omega p) (rootE p 2) (eI q X (I.set i 0)))) (mulP (omega p) zG (eI q X (I.set i 1))) = rotN p 2 (eI q X (I.set i 0))
        rw [mz e1, mul_root hv e0 (by omega), add_zero_l (rotN_in e0 2), add_zero_r (rotN_in e0 2)]
theorem pa_el {p : Int} (hv : VRg (omega p) 4) {q i : Nat} (hq : q ≤ 5) (hi : i < q) {L X I : List Int} (hT : tensorB (omega p) ⟨L, twos q, X⟩ = true) (hI : fitsI (twos q) I) {b : Int} (hb : I[i]? = some b) (x z : Int) :
    eI q (paE p q x z i X) I = rotN p (kkB (bitK x i) (bitK z i) b) (eI q X (I.set i (flB (bitK x i) b))) := by
  have rx := bitK_rng x i
  have rz := bitK_rng z i
  have hr := offF_range hI
  rw [prd_tw] at hr
  unfold paE
  split
  · rename_i hor
    have hk := pm_ok hv hq hi (bitK x i) (bitK z i)
    have hU : Uni 4 (amF (omega p) (addP p) (mulP (omega p)) (pm p (bitK x i) (bitK z i)) 2 [(i : Int)] (twos q) X) := ve_uni (r := omega p) rfl fun e he => by
      obtain ⟨n, hn, rfl⟩ := List.mem_map.1 he
      exact amE_ve hv.alg hT rfl hk n
    have hlen : (offF (twos q) I).toNat < (amF (omega p) (addP p) (mulP (omega p)) (pm p (bitK x i) (bitK z i)) 2 [(i : Int)] (twos q) X).length := by rw [amF_len, prd_tw]; omega
    show getE 4 _ _ = _
    rw [getE_flat hU hlen]
    have : (amF (omega p) (addP p) (mulP (omega p)) (pm p (bitK x i) (bitK z i)) 2 [(i : Int)] (twos q) X)[(offF (twos q) I).toNat] = amE (omega p) (addP p) (mulP (omega p)) (pm p (bitK x i) (bitK z i)) 2 [(i : Int)] (twos q) X (offF (twos q) I).toNat := by
      have h1 : (amF (omega p) (addP p) (mulP (omega p)) (pm p (bitK x i) (bitK z i)) 2 [(i : Int)] (twos q) X)[(offF (twos q) I).toNat]? = some (amE (omega p) (addP p) (mulP (omega p)) (pm p (bitK x i) (bitK z i)) 2 [(i : Int)] (twos q) X (offF (twos q) I).toNat) := by
        unfold amF
        rw [List.getElem?_map, List.getElem?_range (by rw [prd_tw]; omega)]
        rfl
      rw [List.getElem?_eq_getElem hlen] at h1
      exact Option.some.inj h1
    rw [this]
    exact am_el hv hi hT hI hb (by omega) (by omega) hor
  · rename_i hor
    have x0 : bitK x i = 0 := by omega
    have z0 : bitK z i = 0 := by omega
    obtain ⟨f1, f2⟩ := fits_twos.1 hI
    have hil : i < I.length := by omega
    have hbi : I[i] = b := by rw [List.getElem?_eq_getElem hil] at hb; exact Option.some.inj hb
    have hkk : kkB 0 0 b = 0 := by unfold kkB; simp
    have hfl : flB 0 b = b := rfl
    rw [x0, z0, hkk, hfl, ← hbi, set_get_self' hil]
    rfl
/-- All of an operator's matrices: an element is turned, of the index that the operator turns to this. -/
theorem pf_el {p : Int} (hv : VRg (omega p) 4) {q : Nat} (hq : q ≤ 5) {L : List Int} (x z : Int) : ∀ (k i : Nat) (X I : List Int), i + k = q → tensorB (omega p) ⟨L, twos q, X⟩ = true → fitsI (twos q) I →
    ∃ (J : List Int) (P : Nat), fitsI (twos q) J ∧ (∀ j, j < i → J[j]? = I[j]?) ∧ (∀ w : Int, flP x z k i J w = (I, w + P)) ∧ eI q (paF p q x z k i X) I = rotN p P (eI q X J)
  | 0, i, X, I, _, _, hI => ⟨I, 0, hI, fun _ _ => rfl, fun w => by simp [flP], rfl⟩
  | k + 1, i, X, I, hi, hT, hI => by
    have hil : i < q := by omega
    obtain ⟨J', P', hJ, hpre, hfl, hel⟩ := pf_el hv hq x z k (i + 1) (paE p q x z i X) I (by omega) (paE_tens hv hq hil hT) hI
    obtain ⟨f1, f2⟩ := fits_twos.1 hJ
    have hjl : i < J'.length := by omega
    have hb := f2 _ (List.getElem_mem hjl)
    have rx := bitK_rng x i
    have rz := bitK_rng z i
    have hfb : 0 ≤ flB (bitK x i) J'[i] ∧ flB (bitK x i) J'[i] < 2 := by unfold flB; split <;> omega
    have hs := step_01 hfb rx rz
    have hpe := pa_el hv hq hil hT hJ (List.getElem?_eq_getElem hjl) x z
    refine ⟨J'.set i (flB (bitK x i) J'[i]), kkB (bitK x i) (bitK z i) J'[i] + P', set_fits hJ hfb, fun j hj => ?_, fun w => ?_, ?_⟩
    · rw [List.getElem?_set_ne (by omega)]
      exact hpre j (by omega)
    · simp only [flP]
      have hg : (J'.set i (flB (bitK x i) J'[i])).getD i 0 = flB (bitK x i) J'[i] := by
        rw [List.getD_eq_getElem?_getD, List.getElem?_set_self hjl]; rfl
      rw [hg]
      have hback : (if bitK x i = 1 then (J'.set i (flB (bitK x i) J'[i])).set i (1 - flB (bitK x i) J'[i]) else J'.set i (flB (bitK x i) J'[i])) = J' := by
        split
        · rename_i h1
          rw [List.set_set]
          have : 1 - flB (bitK x i) J'[i] = J'[i] := by unfold flB; rw [if_pos h1]; omega
          rw [this, set_get_self' hjl]
        · rename_i h1
          have : flB (bitK x i) J'[i] = J'[i] := by unfold flB; rw [if_neg h1]
          rw [this, set_get_self' hjl]
      rw [hback, hfl]
      have hkk : ((kkB (bitK x i) (bitK z i) J'[i] : Nat) : Int) = 4 * flB (bitK x i) J'[i] * bitK z i + 2 * bitK x i * bitK z i := by unfold kkB; rw [Int.toNat_of_nonneg (by omega)]
      rw [Int.natCast_add, hkk]
      congr 1
      omega
    · simp only [paF]
      rw [hel, hpe, ← rotN_add, Nat.add_comm]
theorem flP_inj {x z : Int} {q : Nat} : ∀ (k i : Nat) (A B : List Int) (w w' : Int), i + k ≤ q → A.length = q → B.length = q → (flP x z k i A w).1 = (flP x z k i B w').1 → A = B
  | 0, _, _, _, _, _, _, _, _, h => h
  | k + 1, i, A, B, w, w', hi, ha, hb, h => by
    simp only [flP] at h
    have := flP_inj (q := q) k (i + 1) _ _ _ _ (by omega) (by split <;> simp [ha]) (by split <;> simp [hb]) h
    by_cases x1 : bitK x i = 1
    · rw [if_pos x1, if_pos x1] at this
      have hia : i < A.length := by omega
      have hib : i < B.length := by omega
      refine List.ext_getElem? fun j => ?_
      have hj := congrArg (fun l => l[j]?) this
      simp only [List.getElem?_set] at hj
      by_cases e : i = j
      · subst e
        rw [if_pos rfl, if_pos rfl, if_pos hia, if_pos hib] at hj
        have hj := Option.some.inj hj
        rw [List.getD_eq_getElem?_getD, List.getD_eq_getElem?_getD, List.getElem?_eq_getElem hia, List.getElem?_eq_getElem hib] at hj
        simp only [Option.getD_some] at hj
        rw [List.getElem?_eq_getElem hia, List.getElem?_eq_getElem hib]
        congr 1; omega
      · rw [if_neg e, if_neg e] at hj
        exact hj
    · rw [if_neg x1, if_neg x1] at this
      exact this
theorem spF_keep {p : Int} {q : Nat} {x z s : Int} {X : List Int} {t : Nat} : ∀ (k n : Nat) (E : List (List Int)), (∀ m, n ≤ m → m < n + k → (offF (twos q) (flN q x z s m).1).toNat ≠ t) → (spF p q x z s X k n E)[t]? = E[t]?
  | 0, _, _, _ => rfl
  | k + 1, n, E, h => by
    simp only [spF]
    rw [spF_keep k (n + 1) _ fun m h1 h2 => h m (by omega) (by omega), List.getElem?_set_ne (h n (by omega) (by omega))]
theorem spF_get {p : Int} {q : Nat} {x z s : Int} {X : List Int} {t n0 : Nat} (ht : (offF (twos q) (flN q x z s n0).1).toNat = t) : ∀ (k n : Nat) (E : List (List Int)), t < E.length → n ≤ n0 → n0 < n + k → (∀ m, n ≤ m → m < n + k → (offF (twos q) (flN q x z s m).1).toNat = t → m = n0) →
    (spF p q x z s X k n E)[t]? = some (mulP (omega p) (rootE p ((flN q x z s n0).2.toNat % 8)) (getE 4 X n0))
  | 0, n, E, hE, h1, h2, _ => by omega
  | k + 1, n, E, hE, h1, h2, hu => by
    simp only [spF]
    by_cases e : n = n0
    · subst e
      rw [spF_keep k (n + 1) _ fun m g1 g2 g3 => by have := hu m (by omega) (by omega) g3; omega, ht, List.getElem?_set_self hE]
    · exact spF_get ht k (n + 1) _ (by simpa using hE) (by omega) (by omega) fun m g1 g2 => hu m (by omega) (by omega)
theorem spF_len {p : Int} {q : Nat} {x z s : Int} {X : List Int} : ∀ (k n : Nat) (E : List (List Int)), (spF p q x z s X k n E).length = E.length
  | 0, _, _ => rfl
  | k + 1, n, E => by simp only [spF]; rw [spF_len k]; simp
/-- Both give the same. -/
theorem pauli_same {p : Int} (hv : VRg (omega p) 4) {q : Nat} (hq : q ≤ 5) {X : List Int} (hT : tensorB (omega p) ⟨iota q, twos q, X⟩ = true) {x z s : Int} (hs : s = 0 ∨ s = 1) :
    (spF p q x z s X (2 ^ q) 0 (elsT 4 ⟨iota q, twos q, X⟩)).flatten = paX p q x z s X := by
  have hTf := paF_tens hv hq (x := x) (z := z) (k := q) (i := 0) (by omega) hT
  have hwr : (widthR (omega p)).toNat = 4 := rfl
  have hel : ∀ Y : List Int, (elsT 4 ⟨iota q, twos q, Y⟩).length = 2 ^ q := fun Y => by unfold elsT; rw [List.length_map, List.length_range]; show (prd (twos q)).toNat = _; rw [prd_tw, Int.toNat_natCast]
  have hget : ∀ (Y : List Int) (t : Nat), t < 2 ^ q → (elsT 4 ⟨iota q, twos q, Y⟩)[t]? = some (getE 4 Y t) := fun Y t ht => by
    unfold elsT
    rw [List.getElem?_map, List.getElem?_range (by show t < (prd (twos q)).toNat; rw [prd_tw, Int.toNat_natCast]; exact ht)]
    rfl
  -- an element of the reference's
  have key : ∀ t, t < 2 ^ q → ∃ (J : List Int) (P : Nat), fitsI (twos q) J ∧ (spF p q x z s X (2 ^ q) 0 (elsT 4 ⟨iota q, twos q, X⟩))[t]? = some (rotN p ((4 * s).toNat + P) (eI q X J)) ∧ getE 4 (paF p q x z q 0 X) t = rotN p P (eI q X J) := by
    intro t ht
    have hI : fitsI (twos q) (idxF (twos q) (t : Int)) := idxF_fits (twos_ge q)
    have hoI : offF (twos q) (idxF (twos q) (t : Int)) = (t : Int) := offF_idx (twos_ge q) (by omega) (by rw [prd_tw]; omega)
    obtain ⟨J, P, hJ, _, hfl, hpe⟩ := pf_el hv hq x z q 0 X (idxF (twos q) (t : Int)) (by omega) hT hI
    have hrJ := offF_range hJ
    rw [prd_tw] at hrJ
    have hn0 : idxF (twos q) ((offF (twos q) J).toNat : Int) = J := by rw [Int.toNat_of_nonneg hrJ.1, idxF_off hJ]
    have hf0 : flN q x z s (offF (twos q) J).toNat = (idxF (twos q) (t : Int), 4 * s + P) := by unfold flN; rw [hn0, hfl]
    refine ⟨J, P, hJ, ?_, ?_⟩
    · have ht0 : (offF (twos q) (flN q x z s (offF (twos q) J).toNat).1).toNat = t := by rw [hf0, hoI]; simp
      rw [spF_get ht0 (2 ^ q) 0 _ (by rw [hel]; exact ht) (by omega) (by omega) fun m _ hm he => ?_]
      · rw [hf0]
        have e1 : (4 * s + (P : Int)).toNat = (4 * s).toNat + P := by omega
        have hin := eI_in hv hT hJ
        show some (mulP (omega p) (rootE p ((4 * s + (P : Int)).toNat % 8)) (eI q X J)) = _
        rw [e1, mul_root hv hin (Nat.mod_lt _ (by omega)), rot_mod hin]
      · have hIm : fitsI (twos q) (idxF (twos q) (m : Int)) := idxF_fits (twos_ge q)
        have hfm : fitsI (twos q) (flN q x z s m).1 := flP_fits q 0 _ _ (by omega) hIm
        have hrm := offF_range hfm
        have e1 : offF (twos q) (flN q x z s m).1 = (t : Int) := by omega
        have e2 : (flN q x z s m).1 = idxF (twos q) (t : Int) := by rw [← e1, idxF_off hfm]
        have e3 : (flP x z q 0 (idxF (twos q) (m : Int)) (4 * s)).1 = (flP x z q 0 J (4 * s)).1 := by rw [hfl]; exact e2
        have e4 := flP_inj q 0 _ _ _ _ (by omega) (fits_twos.1 hIm).1 (fits_twos.1 hJ).1 e3
        have e5 : offF (twos q) (idxF (twos q) (m : Int)) = (m : Int) := offF_idx (twos_ge q) (by omega) (by rw [prd_tw]; omega)
        rw [e4] at e5
        omega
    · have : (offF (twos q) (idxF (twos q) (t : Int))).toNat = t := by rw [hoI]; simp
      have hpe := hpe
      unfold eI at hpe
      rw [this] at hpe
      exact hpe
  unfold paX
  rcases hs with rfl | rfl
  · rw [if_neg (by omega)]
    have hfl := els_flat hTf
    rw [hwr] at hfl
    have hfl : (elsT 4 ⟨iota q, twos q, paF p q x z q 0 X⟩).flatten = paF p q x z q 0 X := hfl
    refine Eq.trans ?_ hfl
    congr 1
    refine List.ext_getElem? fun t => ?_
    by_cases ht : t < 2 ^ q
    · obtain ⟨J, P, hJ, e1, e2⟩ := key t ht
      rw [e1, hget _ _ ht, e2]
      show some (rotN p (0 + P) _) = _
      rw [Nat.zero_add]
    · rw [List.getElem?_eq_none (by rw [spF_len, hel]; omega), List.getElem?_eq_none (by rw [hel]; omega)]
  · rw [if_pos rfl]
    congr 1
    refine List.ext_getElem? fun t => ?_
    by_cases ht : t < 2 ^ q
    · obtain ⟨J, P, hJ, e1, e2⟩ := key t ht
      rw [e1, List.getElem?_map, hget _ _ ht]
      have hin := eI_in hv hT hJ
      show some (rotN p (4 + P) _) = some (mulP (omega p) (rootE p 4) (getE 4 (paF p q x z q 0 X) t))
      rw [e2, mul_root hv (rotN_in hin P) (by omega), ← rotN_add]
    · rw [List.getElem?_eq_none (by rw [spF_len, hel]; omega), List.getElem?_eq_none (by rw [List.length_map, hel]; omega)]
end Go.Abs
/- Marks: what is marked changes within its own blocks alone. -/
namespace Go.Abs
set_option linter.all false
set_option maxRecDepth 10000

/-- A row of whole cells in a block from n0 on, below n1. -/
structure WS (z n0 n1 : Nat) (H : AH) (s : Sl) : Prop where
  o : s.o = 0
  blk : s.n = 0 ∨ (n0 ≤ s.b ∧ s.b < n1 ∧ ∃ cs, H[s.b]? = some ⟨cs, .rw, z⟩ ∧ cs.length = s.n * z)
/-- The same shape; nothing changes out of the blocks from n0 on, below n1, nor the rows of rows in them. -/
structure ShE (n0 n1 : Nat) (H H' : AH) : Prop where
  len : H'.length = H.length
  out : ∀ b, (b < n0 ∨ n1 ≤ b) → H'[b]? = H[b]?
  inn : ∀ (b : Nat) (cs : List Sc) (z : Nat), H[b]? = some ⟨cs, .rw, z⟩ → ∃ cs' : List Sc, H'[b]? = some ⟨cs', .rw, z⟩ ∧ cs'.length = cs.length ∧ (z = 3 → cs' = cs)
theorem ShE.refl (n0 n1 : Nat) (H : AH) : ShE n0 n1 H H := ⟨rfl, fun _ _ => rfl, fun b cs z h => ⟨cs, h, rfl, fun _ => rfl⟩⟩
theorem ShE.trans {n0 n1 : Nat} {A B C : AH} (h : ShE n0 n1 A B) (k : ShE n0 n1 B C) : ShE n0 n1 A C :=
  ⟨k.len.trans h.len, fun b hb => (k.out b hb).trans (h.out b hb), fun b cs z hb => by
    obtain ⟨c1, h1, h2, h3⟩ := h.inn b cs z hb
    obtain ⟨c2, k1, k2, k3⟩ := k.inn b c1 z h1
    exact ⟨c2, k1, k2.trans h2, fun e => (k3 e).trans (h3 e)⟩⟩
theorem ShE.set {n0 n1 z b : Nat} {H : AH} {cs cs' : List Sc} (hz : z ≠ 3) (h0 : n0 ≤ b) (h1 : b < n1) (hb : H[b]? = some ⟨cs, .rw, z⟩) (hl : cs'.length = cs.length) : ShE n0 n1 H (H.set b ⟨cs', .rw, z⟩) :=
  ⟨by simp, fun d hd => List.getElem?_set_ne (by omega), fun d c y hd => by
    by_cases e : b = d
    · subst e
      rw [hb] at hd
      cases hd
      exact ⟨cs', set_get hb, hl, fun e => absurd e hz⟩
    · exact ⟨c, by rw [List.getElem?_set_ne e]; exact hd, rfl, fun _ => rfl⟩⟩
theorem WS.she {z n0 n1 : Nat} {H H' : AH} {s : Sl} (h : WS z n0 n1 H s) (k : ShE n0 n1 H H') : WS z n0 n1 H' s :=
  ⟨h.o, h.blk.imp id fun ⟨a, b, cs, c, d⟩ => by
    obtain ⟨c', e1, e2, _⟩ := k.inn _ cs z c
    exact ⟨a, b, c', e1, e2.trans d⟩⟩
theorem WS.ext {z n0 n1 n2 : Nat} {H H' : AH} {s : Sl} (h : WS z n0 n1 H s) (k : Go.Abs.Le H H') (hn : n1 ≤ n2) : WS z n0 n2 H' s :=
  ⟨h.o, h.blk.imp id fun ⟨a, b, cs, c, d⟩ => ⟨a, by omega, cs, by rw [k.get _ (List.getElem?_eq_some_iff.1 c).1]; exact c, d⟩⟩
theorem WS.low {z m0 n0 n1 : Nat} {H : AH} {s : Sl} (h : WS z n0 n1 H s) (hn : m0 ≤ n0) : WS z m0 n1 H s :=
  ⟨h.o, h.blk.imp id fun ⟨a, b, cs, c, d⟩ => ⟨by omega, b, cs, c, d⟩⟩
/-- What lies below the marked blocks stays. -/
theorem ShE.le {n0 n1 : Nat} {A H H' : AH} (h : ShE n0 n1 H H') (k : Go.Abs.Le A H) (hn : A.length ≤ n0) : Go.Abs.Le A H' :=
  ⟨by rw [h.len]; exact k.len, fun b hb => by rw [h.out b (.inl (by omega))]; exact k.get b hb⟩
/-- laws.markIntS -/
theorem m_ints {n0 n1 : Nat} {H : AH} {s : Sl} (h : WS 1 n0 n1 H s) (hl : s.n ≤ 1048576) {k : Int} (h0 : 0 ≤ k) (h1 : k ≤ 4611686018427387904) :
    ∃ H', R (.fn F.wmarkIntS) [ssc s, isc k] H = some ⟨1, [isc (k + s.n)], H'⟩ ∧ ShE n0 n1 H H' := by
  have loop : ∀ (m i : Nat), i + m = s.n → ∀ Hc, ShE n0 n1 H Hc → ∃ H', R (.loop F.wmarkIntS 0) [ssc s, isc (k + i), isc (i : Int)] Hc = some ⟨2, [isc (k + s.n)], H'⟩ ∧ ShE n0 n1 H H' := by
    intro m
    induction m with
    | zero =>
      intro i hi Hc hE
      obtain rfl : i = s.n := by omega
      exact ⟨Hc, by rw [R_eq, e_wmarkIntS_0, lt_self]; rfl, hE⟩
    | succ m ih =>
      intro i hi Hc hE
      have hlt : i < s.n := by omega
      have hw : IntKind.wrap .i64 (k + (i : Int) + 1) = k + ((i + 1 : Nat) : Int) := by rw [wrap_id] <;> omega
      rcases (h.she hE).blk with e | ⟨b0, b1, cs, hb, hc⟩
      · omega
      rw [R_eq, e_wmarkIntS_0, lt_true hlt, w1 hlt (by omega), cond_true, hw, ixA_nat hlt]
      simp only [Option.bind_some, h.o, Nat.zero_add, Nat.mul_one]
      rw [putR_one hb (by omega)]
      simp only [Option.bind_some]
      exact ih (i + 1) (by omega) _ (hE.trans (ShE.set (by omega) b0 b1 hb (by simp)))
  obtain ⟨H', e, hE⟩ := loop s.n 0 (by omega) H (ShE.refl _ _ _)
  have e : R (.loop F.wmarkIntS 0) [ssc s, isc (k + (0 : Int)), isc 0] H = some ⟨2, [isc (k + s.n)], H'⟩ := e
  rw [Int.add_zero] at e
  exact ⟨H', by rw [R_eq, e_wmarkIntS, e]; rfl, hE⟩
end Go.Abs
/- The law's own helpers for plans. -/
namespace Go.Abs
set_option linter.all false
set_option maxRecDepth 10000

end Go.Abs
/- Marks: copies of arguments lie in blocks of their own; they are marked there. -/
namespace Go.Abs
set_option linter.all false
set_option maxRecDepth 10000

theorem w_toIntS {H : AH} {s : Sl} {l : List Int} (h : IS H s l) (hl : l.length ≤ 1048576) :
    ∃ s' H', R (.fn F.wtoIntS) [ssc s] H = some ⟨1, [ssc s'], H'⟩ ∧ Go.Abs.Le H H' ∧ IS H' s' l ∧ WS 1 H.length H'.length H' s' ∧ s'.n = l.length ∧ H.length ≤ s'.b := by
  obtain ⟨H1, e1, l1, n1, b1⟩ := c_wtoIntS h hl
  exact ⟨_, H1, e1, l1, IS.of_blk b1 (Nat.le_refl _), ⟨rfl, .inr ⟨Nat.le_refl _, by show H.length < H1.length; omega, ics l, b1, by simp [ics]⟩⟩, rfl, Nat.le_refl _⟩
/-- A tensor's rows in blocks of their own. -/
structure W3 (n0 n1 : Nat) (H : AH) (a b c : Sl) (t : Tn) : Prop where
  wa : WS 1 n0 n1 H a
  wb : WS 1 n0 n1 H b
  wc : WS 1 n0 n1 H c
  na : a.n = t.L.length
  nb : b.n = t.D.length
  nc : c.n = t.X.length
theorem W3.she {n0 n1 : Nat} {H H' : AH} {a b c : Sl} {t : Tn} (h : W3 n0 n1 H a b c t) (k : ShE n0 n1 H H') : W3 n0 n1 H' a b c t := ⟨h.wa.she k, h.wb.she k, h.wc.she k, h.na, h.nb, h.nc⟩
theorem W3.ext {n0 n1 n2 : Nat} {H H' : AH} {a b c : Sl} {t : Tn} (h : W3 n0 n1 H a b c t) (k : Go.Abs.Le H H') (hn : n1 ≤ n2) : W3 n0 n2 H' a b c t := ⟨h.wa.ext k hn, h.wb.ext k hn, h.wc.ext k hn, h.na, h.nb, h.nc⟩
theorem w_toTensor {H : AH} {a b c : Sl} {t : Tn} (h : TS H a b c t) (hs : TnSmall t) :
    ∃ a' b' c' H', R (.fn F.wtoTensor) [tpv a b c] H = some ⟨1, [tpv a' b' c'], H'⟩ ∧ Go.Abs.Le H H' ∧ TS H' a' b' c' t ∧ W3 H.length H'.length H' a' b' c' t ∧ H.length ≤ a'.b ∧ H.length ≤ b'.b ∧ H.length ≤ c'.b := by
  obtain ⟨a', H1, e1, l1, i1, w1, n1, q1⟩ := w_toIntS h.L hs.1
  obtain ⟨b', H2, e2, l2, i2, w2, n2, q2⟩ := w_toIntS (h.D.le l1) hs.2.1
  obtain ⟨c', H3, e3, l3, i3, w3, n3, q3⟩ := w_toIntS (h.X.le (l1.trans l2)) hs.2.2
  have a1 := l1.len; have a2 := l2.len; have a3 := l3.len
  refine ⟨a', b', c', H3, ?_, (l1.trans l2).trans l3, ⟨i1.le (l2.trans l3), i2.le l3, i3⟩, ⟨w1.ext (l2.trans l3) (by omega), (w2.ext l3 (by omega)).low (by omega), w3.low (by omega), n1, n2, n3⟩, q1, by omega, by omega⟩
  rw [R_eq, e_wtoTensor, e1]
  simp only [Option.bind_some, one_sl]
  rw [e2]
  simp only [Option.bind_some, one_sl]
  rw [e3]
  simp only [Option.bind_some, one_sl]
/-- A row of tensors, their rows in blocks of their own. -/
structure WT (n0 n1 : Nat) (H : AH) (s : Sl) (ts : List Tn) : Prop where
  o : s.o = 0
  n : s.n = ts.length
  blk : ∃ cs : List Sc, H[s.b]? = some ⟨cs, .rw, 3⟩ ∧ ∀ (j : Nat) t, ts[j]? = some t → ∃ a b c, cs[j * 3]? = some (.sl a) ∧ cs[j * 3 + 1]? = some (.sl b) ∧ cs[j * 3 + 1 + 1]? = some (.sl c) ∧ W3 n0 n1 H a b c t
theorem WT.she {n0 n1 : Nat} {H H' : AH} {s : Sl} {ts : List Tn} (h : WT n0 n1 H s ts) (k : ShE n0 n1 H H') : WT n0 n1 H' s ts := by
  obtain ⟨ho, hn, cs, hb, hg⟩ := h
  obtain ⟨cs', e1, e2, e3⟩ := k.inn _ cs 3 hb
  refine ⟨ho, hn, cs', e1, fun j t hj => ?_⟩
  rw [e3 rfl]
  obtain ⟨a, b, c, g1, g2, g3, g4⟩ := hg j t hj
  exact ⟨a, b, c, g1, g2, g3, g4.she k⟩
theorem WT.ext {n0 n1 n2 : Nat} {H H' : AH} {s : Sl} {ts : List Tn} (h : WT n0 n1 H s ts) (k : Go.Abs.Le H H') (hn : n1 ≤ n2) : WT n0 n2 H' s ts := by
  obtain ⟨ho, hm, cs, hb, hg⟩ := h
  refine ⟨ho, hm, cs, by rw [k.get _ (List.getElem?_eq_some_iff.1 hb).1]; exact hb, fun j t hj => ?_⟩
  obtain ⟨a, b, c, g1, g2, g3, g4⟩ := hg j t hj
  exact ⟨a, b, c, g1, g2, g3, g4.ext k hn⟩
structure WN (n0 n1 : Nat) (H : AH) (s u : Sl) (n : Nw) : Prop where
  ts : WT n0 n1 H s n.ts
  op : WS 1 n0 n1 H u
  no : u.n = n.op.length
end Go.Abs
/- The law FnExactFormulaNetwork: its contract in plain Lean. -/
namespace Go.Abs
set_option linter.all false
set_option maxRecDepth 10000

def fieldsOf (P : Program) (t : TypeId) : Option (List (TypeId × Nat × Nat)) := match P.underlying t with
  | some (.struct fs) => some (fs.toList.map fun f => (f.type, f.offset, tsz P f.type))
  | _ => none
theorem open_struct {H : AH} {n : Nat} {t : TypeId} {L : List (TypeId × Nat × Nat)} (hf : fieldsOf P t = some L) {l : List Sc} (h : typed P (n + 1) H t l) : l.length = tsz P t ∧ ∀ x ∈ L, typed P n H x.1 ((l.drop x.2.1).take x.2.2) := by
  unfold fieldsOf at hf
  split at hf
  · rename_i fs hu
    cases hf
    simp only [typed, hu] at h
    refine ⟨h.1, fun x hx => ?_⟩
    obtain ⟨f, hm, rfl⟩ := List.mem_map.1 hx
    exact h.2 f hm
  · cases hf
theorem pvT_struct {t : TypeId} {L : List (TypeId × Nat × Nat)} (hf : fieldsOf P t = some L) (l : List Sc) : pvT P t l = .agg l := by
  unfold fieldsOf at hf
  unfold pvT
  split at hf
  · rename_i fs hu
    rw [hu]
  · cases hf
theorem u_int : P.underlying Y.tint = some (.int .i64) := by kernel_rfl
theorem u_Sint : P.underlying Y.tSint = some (.slice Y.tint) := by kernel_rfl
theorem z_int : tsz P Y.tint = 1 := by kernel_rfl
theorem len3 {α : Type} {l : List α} (h : l.length = 3) : ∃ a b c, l = [a, b, c] := by
  match l, h with
  | [a, b, c], _ => exact ⟨a, b, c, rfl⟩
end Go.Abs
/- The law FnExactSessionOk: its contract in plain Lean. -/
namespace Go.Abs
set_option linter.all false
set_option maxRecDepth 10000

theorem f_Tensor : fieldsOf P Y.tlaws_Tensor = some [(Y.tSint, 0, 1), (Y.tSint, 1, 1), (Y.tSint, 2, 1)] := by kernel_rfl
theorem z_Tensor : tsz P Y.tlaws_Tensor = 3 := by kernel_rfl
theorem open_tensor {H : AH} {n : Nat} {l : List Sc} (h : typed P (n + 3) H Y.tlaws_Tensor l) : ∃ a b c t, l = [.sl a, .sl b, .sl c] ∧ TS H a b c t ∧ TnMax t := by
  obtain ⟨h1, h2⟩ := open_struct f_Tensor h
  obtain ⟨x, y, z, rfl⟩ := len3 (h1.trans z_Tensor)
  obtain ⟨a, L, ha, a1, a2, _⟩ := open_ints u_Sint u_int z_int (h2 (Y.tSint, 0, 1) (by simp))
  obtain ⟨b, D, hb, b1, b2, _⟩ := open_ints u_Sint u_int z_int (h2 (Y.tSint, 1, 1) (by simp))
  obtain ⟨c, X, hc, c1, c2, _⟩ := open_ints u_Sint u_int z_int (h2 (Y.tSint, 2, 1) (by simp))
  simp at ha hb hc
  exact ⟨a, b, c, ⟨L, D, X⟩, by rw [ha, hb, hc], ⟨a1, b1, c1⟩, a2, b2, c2⟩
end Go.Abs
/- The law FnExactApplyPauli: its contract in plain Lean. -/
namespace Go.Abs
set_option linter.all false
set_option maxRecDepth 10000

theorem state_base {p : Int} {q : Nat} {t : Tn} (h : stateB p q t = true) : baseB p q = true := by
  obtain ⟨hT, h1, h5, _⟩ := state_at h
  obtain ⟨hp, hp2⟩ := omega_at hT
  unfold baseB
  rw [hp, bf (show p ≠ 2 by omega), decide_eq_true h1, decide_eq_true h5]
  rfl
theorem calc_sApplyPauli {p x z s : Int} {q : Nat} {H H1 H2 H3 : AH} {a b c a0 b0 c0 a1 b1 c1 : Sl} (hq : a.n = q)
    (e0 : R (.fn F.sBasisState) [isc p, isc (q : Int), isc 0] H = some ⟨1, [tpv a0 b0 c0, bsc true], H1⟩)
    (e1 : R (.fn F.sPauliOk) [isc (q : Int), .agg [.int .i64 x, .int .i64 z, .int .i64 s]] H1 = some ⟨1, [bsc true], H1⟩)
    (e2 : R (.fn F.sTensorOk) [(omega p).pv, tpv a b c] H1 = some ⟨1, [bsc true], H1⟩)
    (e3 : R (.fn F.sl06Equal) [ssc a, ssc a0] H1 = some ⟨1, [bsc true], H1⟩)
    (e4 : R (.fn F.sl06Equal) [ssc b, ssc b0] H1 = some ⟨1, [bsc true], H1⟩)
    (e5 : R (.fn F.sl05Copy) [tpv a b c] H1 = some ⟨1, [tpv a1 b1 c1], H2⟩)
    (e6 : R (.loop F.sApplyPauli 0) [isc (q : Int), isc 0, .agg [.int .i64 x, .int .i64 z, .int .i64 s], tpv a b c, (omega p).pv, tpv a1 b1 c1] H2 = some ⟨2, [], H3⟩) :
    R (.fn F.sApplyPauli) [isc p, .agg [.int .i64 x, .int .i64 z, .int .i64 s], tpv a b c] H = some ⟨1, [tpv a1 b1 c1, bsc true], H3⟩ := by
  rw [R_eq, e_sApplyPauli, hq, e0]
  simp only [Option.bind_some, t_sss_b]
  rw [c_sl40Ring]
  simp only [Option.bind_some, Rg.pv, o_iii, Bool.not_true, cond_false]
  rw [e1]
  simp only [Option.bind_some, one_bool, Bool.not_true, cond_false]
  rw [e2]
  simp only [Option.bind_some, one_bool, Bool.not_true, cond_false]
  rw [e3]
  simp only [Option.bind_some, one_bool, Bool.not_true, cond_false]
  rw [e4]
  simp only [Option.bind_some, one_bool, Bool.not_true, cond_false]
  rw [e5]
  simp only [Option.bind_some, o_sss]
  rw [e6]
  simp only [Option.bind_some, Nat.beq, cond_true]
theorem calc_sApplyPauli0 {p x z s : Int} {q : Nat} {H H1 : AH} {a b c a0 b0 c0 : Sl} {f g : Bool} (hq : a.n = q)
    (e0 : R (.fn F.sBasisState) [isc p, isc (q : Int), isc 0] H = some ⟨1, [tpv a0 b0 c0, bsc f], H1⟩) (hg : (f && g) = false)
    (e1 : R (.fn F.sPauliOk) [isc (q : Int), .agg [.int .i64 x, .int .i64 z, .int .i64 s]] H1 = some ⟨1, [bsc g], H1⟩) :
    R (.fn F.sApplyPauli) [isc p, .agg [.int .i64 x, .int .i64 z, .int .i64 s], tpv a b c] H = some ⟨1, [nil3, bsc false], H1⟩ := by
  rw [R_eq, e_sApplyPauli, hq, e0]
  simp only [Option.bind_some, t_sss_b]
  rw [c_sl40Ring]
  simp only [Option.bind_some, Rg.pv, o_iii]
  cases f with
  | false => rfl
  | true =>
    simp only [Bool.true_and] at hg
    subst hg
    simp only [Bool.not_true, cond_false]
    rw [e1]
    simp only [Option.bind_some, one_bool, Bool.not_false, cond_true]
theorem calc_sApplyPauli1 {p x z s : Int} {q : Nat} {H H1 : AH} {a b c a0 b0 c0 : Sl} {f g h : Bool} (hq : a.n = q)
    (e0 : R (.fn F.sBasisState) [isc p, isc (q : Int), isc 0] H = some ⟨1, [tpv a0 b0 c0, bsc true], H1⟩)
    (e1 : R (.fn F.sPauliOk) [isc (q : Int), .agg [.int .i64 x, .int .i64 z, .int .i64 s]] H1 = some ⟨1, [bsc true], H1⟩)
    (e2 : R (.fn F.sTensorOk) [(omega p).pv, tpv a b c] H1 = some ⟨1, [bsc f], H1⟩)
    (e3 : f = true → R (.fn F.sl06Equal) [ssc a, ssc a0] H1 = some ⟨1, [bsc g], H1⟩)
    (e4 : f = true → R (.fn F.sl06Equal) [ssc b, ssc b0] H1 = some ⟨1, [bsc h], H1⟩) (hh : (f && g && h) = false) :
    R (.fn F.sApplyPauli) [isc p, .agg [.int .i64 x, .int .i64 z, .int .i64 s], tpv a b c] H = some ⟨1, [nil3, bsc false], H1⟩ := by
  rw [R_eq, e_sApplyPauli, hq, e0]
  simp only [Option.bind_some, t_sss_b]
  rw [c_sl40Ring]
  simp only [Option.bind_some, Rg.pv, o_iii, Bool.not_true, cond_false]
  rw [e1]
  simp only [Option.bind_some, one_bool, Bool.not_true, cond_false]
  rw [e2]
  simp only [Option.bind_some, one_bool]
  cases f with
  | false => rfl
  | true =>
    simp only [Bool.not_true, cond_false]
    rw [e3 rfl]
    simp only [Option.bind_some, one_bool]
    cases g with
    | false => rfl
    | true =>
      simp only [Bool.not_true, cond_false]
      rw [e4 rfl]
      simp only [Bool.true_and] at hh
      subst hh
      simp only [Option.bind_some, one_bool, Bool.not_false, cond_true]
/-- spec.ApplyPauli -/
theorem c_sApplyPauli {p x z s : Int} {H : AH} {a b c : Sl} {t : Tn} (h : TS H a b c t) :
    ∃ a' b' c' H', R (.fn F.sApplyPauli) [isc p, .agg [.int .i64 x, .int .i64 z, .int .i64 s], tpv a b c] H = some ⟨1, [tpv a' b' c', bsc (pauB p x z s t)], H'⟩ ∧ Fr H H' (rows3 a' b' c' (pauT p x z s t)) := by
  have hqn : a.n = t.L.length := h.L.n
  have e1 : ∀ G : AH, R (.fn F.sPauliOk) [isc (t.L.length : Int), .agg [.int .i64 x, .int .i64 z, .int .i64 s]] G = some ⟨1, [bsc (pauliB t.L.length x z s)], G⟩ := fun _ => c_sPauliOk
  unfold pauT pauB
  rcases c_sBasisState (p := p) (q := t.L.length) (H := H) with ⟨hb, a0, b0, c0, H1, e0, l1, i0, j0⟩ | ⟨hb, e0⟩
  · cases hu : pauliB t.L.length x z s with
    | false =>
      have e1 := e1 H1
      rw [hu] at e1
      have := calc_sApplyPauli0 (a := a) (b := b) (c := c) hqn e0 rfl e1
      rw [Bool.and_false]
      exact ⟨_, _, _, H1, this, fr_nil3 l1⟩
    | true =>
      have e1 := e1 H1
      rw [hu] at e1
      have e2 := c_sTensorOk (omega p) (h.le l1)
      have e3 : tensorB (omega p) t = true → R (.fn F.sl06Equal) [ssc a, ssc a0] H1 = some ⟨1, [bsc (t.L == iota t.L.length)], H1⟩ := fun hT => c_sl06Equal (h.L.le l1) i0 (by have := tensor_dims hT; omega)
      have e4 : tensorB (omega p) t = true → R (.fn F.sl06Equal) [ssc b, ssc b0] H1 = some ⟨1, [bsc (t.D == twos t.L.length)], H1⟩ := fun hT => c_sl06Equal (h.D.le l1) j0 (by have := tensor_dims hT; omega)
      have hst : stateB p t.L.length t = (tensorB (omega p) t && (t.L == iota t.L.length) && (t.D == twos t.L.length)) := by
        obtain ⟨_, _, h1, h5⟩ := base_at hb
        unfold stateB
        rw [decide_eq_true h1, decide_eq_true h5, Bool.and_self, Bool.and_true]
      rw [Bool.and_true]
      cases hs : stateB p t.L.length t with
      | false =>
        rw [hst] at hs
        exact ⟨_, _, _, H1, calc_sApplyPauli1 (a := a) (b := b) (c := c) hqn e0 e1 e2 e3 e4 hs, fr_nil3 l1⟩
      | true =>
        obtain ⟨hT, h1, h5, hL, hD⟩ := state_at hs
        obtain ⟨hx, hz, hsr⟩ := pauli_at hu
        obtain ⟨hp, hp2⟩ := omega_at hT
        have hv := om_vr hp hp2
        have e3 := e3 hT
        have e4 := e4 hT
        rw [hT] at e2
        generalize hq : t.L.length = q at *
        obtain ⟨L, D, X⟩ := t
        simp only at hL hD hq
        subst hL hD
        rw [show (iota q == iota q) = true from by simp] at e3
        rw [show (twos q == twos q) = true from by simp] at e4
        obtain ⟨a1, b1, c1, H2, e5, n2⟩ := n_sl05Copy (h.le l1) (ok_small hT)
        have F2 : Fr H H2 ((a1, iota q) :: (b1, twos q) :: (c1, X) :: []) := ⟨l1.trans n2.le, n2.rows.low l1.len⟩
        have hwr : (widthR (omega p)).toNat = 4 := rfl
        have hfl := els_flat hT
        rw [hwr] at hfl
        have hfl : (elsT 4 ⟨iota q, twos q, X⟩).flatten = X := hfl
        have hve := els_ve hT
        rw [hwr] at hve
        have F3 : Fr H H2 ((c1, (elsT 4 ⟨iota q, twos q, X⟩).flatten) :: (a1, iota q) :: (b1, twos q) :: []) := by
          rw [hfl]
          exact F2.perm (List.perm_append_comm (l₂ := [(a1, iota q), (b1, twos q)]) (l₁ := [(c1, X)]))
        have hel : (elsT 4 ⟨iota q, twos q, X⟩).length = 2 ^ q := by unfold elsT; rw [List.length_map, List.length_range]; show (prd (twos q)).toNat = _; rw [prd_tw, Int.toNat_natCast]
        have ts2 : TS H2 a b c ⟨iota q, twos q, X⟩ := h.le (l1.trans n2.le)
        -- the frame begins where the walk begins
        have hsame := pauli_same hv h5 hT (x := x) (z := z) (s := s) (by omega)
        obtain ⟨H3, e6, F6⟩ := c_sApplyPauli_0 (a := a1) (b := b1) hp hp2 hx hz hsr h5 h hT (2 ^ q) 0 (by omega) H2 _ F3 hel hve
        have e6 : R (.loop F.sApplyPauli 0) [isc (q : Int), isc 0, .agg [.int .i64 x, .int .i64 z, .int .i64 s], tpv a b c, (omega p).pv, tpv a1 b1 c1] H2 = _ := e6
        rw [hsame] at F6
        have hqn : a.n = q := by rw [h.L.n]; simp
        refine ⟨a1, b1, c1, H3, calc_sApplyPauli hqn e0 e1 e2 e3 e4 e5 e6, ?_⟩
        exact F6.perm (List.perm_append_comm (l₂ := [(c1, paX p q x z s X)]) (l₁ := [(a1, iota q), (b1, twos q)]))
  · have hs : stateB p t.L.length t = false := by
      cases hs : stateB p t.L.length t with
      | false => rfl
      | true => rw [state_base hs] at hb; cases hb
    rw [hs, Bool.false_and]
    exact ⟨_, _, _, H, calc_sApplyPauli0 (a := a) (b := b) (c := c) hqn e0 (by simp) (e1 H), fr_nil3 (Go.Abs.Le.refl H)⟩
/-- laws.markTensor, on a tensor of its own -/
theorem p_tensor {n0 : Nat} {H : AH} {a b c : Sl} {t : Tn} (h : Rows n0 H (rows3 a b c t)) (hs : TnSmall t) :
    ∃ H', R (.fn F.wmarkTensor) [tpv a b c, isc 1] H = some ⟨1, [isc (1 + (t.L.length : Int) + t.D.length + t.X.length)], H'⟩ ∧ H'.length = H.length ∧ (∀ b, b < n0 → H'[b]? = H[b]?) ∧
      IS H' a (seqL 1 t.L.length) ∧ IS H' b (seqL (1 + (t.L.length : Int)) t.D.length) ∧ IS H' c (seqL (1 + (t.L.length : Int) + t.D.length) t.X.length) := by
  obtain ⟨s1, s2, s3⟩ := hs
  have oa := h.own (a, t.L) (by simp [rows3])
  have ob := h.own (b, t.D) (by simp [rows3])
  have oc := h.own (c, t.X) (by simp [rows3])
  have ab : t.L ≠ [] → t.D ≠ [] → a.b ≠ b.b := fun h1 h2 => row_ne (p := (a, t.L)) (q := (b, t.D)) (xs := []) (ys := []) (zs := [(c, t.X)]) h rfl h1 h2
  have ac : t.L ≠ [] → t.X ≠ [] → a.b ≠ c.b := fun h1 h2 => row_ne (p := (a, t.L)) (q := (c, t.X)) (xs := []) (ys := [(b, t.D)]) (zs := []) h rfl h1 h2
  have bc : t.D ≠ [] → t.X ≠ [] → b.b ≠ c.b := fun h1 h2 => row_ne (p := (b, t.D)) (q := (c, t.X)) (xs := [(a, t.L)]) (ys := []) (zs := []) h rfl h1 h2
  have nl : ∀ {l : List Int} {k : Int}, l ≠ [] ↔ seqL k l.length ≠ [] := fun {l k} => by
    cases l with
    | nil => simp [seqL]
    | cons x l => simp [seqL]
  obtain ⟨H1, e1, l1, f1, o1⟩ := c_wmarkIntS oa (by show t.L.length ≤ _; omega) (k := 1) (by omega) (by omega)
  have ob1 : Own n0 H1 b t.D := ob.mono fun hm => f1 _ (by
    by_cases hn : t.L = []
    · exact .inr hn
    · exact .inl (Ne.symm (ab hn hm)))
  have oc1 : Own n0 H1 c t.X := oc.mono fun hm => f1 _ (by
    by_cases hn : t.L = []
    · exact .inr hn
    · exact .inl (Ne.symm (ac hn hm)))
  obtain ⟨H2, e2, l2, f2, o2⟩ := c_wmarkIntS ob1 (by omega) (k := 1 + (t.L.length : Int)) (by omega) (by omega)
  have oa2 : Own n0 H2 a (seqL 1 t.L.length) := o1.mono fun hn => f2 _ (by
    by_cases hm : t.D = []
    · exact .inr hm
    · exact .inl (ab (nl.2 hn) hm))
  have oc2 : Own n0 H2 c t.X := oc1.mono fun hm => f2 _ (by
    by_cases hn : t.D = []
    · exact .inr hn
    · exact .inl (Ne.symm (bc hn hm)))
  obtain ⟨H3, e3, l3, f3, o3⟩ := c_wmarkIntS oc2 (by omega) (k := 1 + (t.L.length : Int) + t.D.length) (by omega) (by omega)
  have oa3 : Own n0 H3 a (seqL 1 t.L.length) := oa2.mono fun hn => f3 _ (by
    by_cases hm : t.X = []
    · exact .inr hm
    · exact .inl (ac (nl.2 hn) hm))
  have ob3 : Own n0 H3 b (seqL (1 + (t.L.length : Int)) t.D.length) := o2.mono fun hn => f3 _ (by
    by_cases hm : t.X = []
    · exact .inr hm
    · exact .inl (bc (nl.2 hn) hm))
  refine ⟨H3, ?_, by omega, fun d hd => ?_, oa3.is, ob3.is, o3.is⟩
  · rw [R_eq, e_wmarkTensor, e1]
    simp only [Option.bind_some, one_int]
    rw [e2]
    simp only [Option.bind_some, one_int]
    rw [e3]
    simp only [Option.bind_some, one_int]
  · have below : ∀ {s : Sl} {l : List Int} {G : AH}, Own n0 G s l → d ≠ s.b ∨ l = [] := fun {s l G} o => by
      rcases o.lo with e | e
      · exact .inr e
      · exact .inl (by omega)
    rw [f3 d (below oc2), f2 d (below ob1), f1 d (below oa)]
/-- laws.heldTensor, where the marks are held -/
theorem p_heldT {H : AH} {a b c : Sl} {n m k : Nat} (h : IS H a (seqL 1 n)) (h2 : IS H b (seqL (1 + (n : Int)) m)) (h3 : IS H c (seqL (1 + (n : Int) + m) k)) (hn : n ≤ 1048576) (hm : m ≤ 1048576) (hk : k ≤ 1048576) :
    R (.fn F.wheldTensor) [tpv a b c, isc 1] H = some ⟨1, [isc (1 + (n : Int) + m + k)], H⟩ := by
  rw [R_eq, e_wheldTensor, c_wheldIntS h (by omega) (by omega) (by omega)]
  simp only [Option.bind_some, one_int, decide_eq_false (show ¬ 1 + (n : Int) < 0 by omega), cond_false]
  rw [c_wheldIntS h2 (by omega) (by omega) (by omega)]
  simp only [Option.bind_some, one_int, decide_eq_false (show ¬ 1 + (n : Int) + (m : Int) < 0 by omega), cond_false]
  rw [c_wheldIntS h3 (by omega) (by omega) (by omega)]
  simp only [Option.bind_some, one_int, decide_eq_false (show ¬ 1 + (n : Int) + (m : Int) + (k : Int) < 0 by omega), cond_false]
/-- laws.markTensor, on a copy -/
theorem m_tensor1 {n0 n1 : Nat} {H : AH} {a b c : Sl} {t : Tn} (h : W3 n0 n1 H a b c t) (hs : TnSmall t) :
    ∃ k' H', R (.fn F.wmarkTensor) [tpv a b c, isc 1] H = some ⟨1, [isc k'], H'⟩ ∧ ShE n0 n1 H H' ∧ 0 ≤ k' := by
  have h1 := h.na; have h2 := h.nb; have h3 := h.nc
  obtain ⟨s1, s2, s3⟩ := hs
  obtain ⟨H1, e1, E1⟩ := m_ints h.wa (by omega) (k := 1) (by omega) (by omega)
  obtain ⟨H2, e2, E2⟩ := m_ints (h.wb.she E1) (by omega) (k := 1 + (a.n : Int)) (by omega) (by omega)
  obtain ⟨H3, e3, E3⟩ := m_ints ((h.wc.she E1).she E2) (by omega) (k := 1 + (a.n : Int) + b.n) (by omega) (by omega)
  refine ⟨1 + (a.n : Int) + b.n + c.n, H3, ?_, (E1.trans E2).trans E3, by omega⟩
  rw [R_eq, e_wmarkTensor, e1]
  simp only [Option.bind_some, one_int]
  rw [e2]
  simp only [Option.bind_some, one_int]
  rw [e3]
  simp only [Option.bind_some, one_int]
end Go.Abs
/- Contracts: a circuit's network (impl), whole. -/
namespace Go.Abs
set_option linter.all false
set_option maxRecDepth 10000

end Go.Abs
/- Contracts: a circuit's network (spec). -/
namespace Go.Abs
set_option linter.all false
set_option maxRecDepth 10000

end Go.Abs
/- Contracts: the law's own helpers for circuits. -/
namespace Go.Abs
set_option linter.all false
set_option maxRecDepth 10000

theorem pvT_int {t : TypeId} (hu : P.underlying t = some (.int .i64)) (s : Sc) : pvT P t [s] = .sc s := by
  unfold pvT; rw [hu]
end Go.Abs
