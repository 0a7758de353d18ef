/- Part of the proof of FnExactApplyPauli: that for every input the law answers true and leaves what it reads as it was. Conditions: none beyond the given statement. -/
import Derived.Test.YtabkpkhjpfjpeaaLabAbsToPack
import Derived.Scope
import Derived.Orders
import GoSem.ClaimChange
import Derived.WideShapes
import Derived.Below
import Derived.Carry
import Derived.ChangeShapes
import Derived.ChangeOld
set_option linter.all false
/- The abstract interpreter's word on code. -/
namespace Go.Abs
set_option linter.unusedVariables false
set_option linter.unusedSimpArgs false

def exOf : Nat → Exit
  | 0 => .normal
  | 1 => .ret
  | k + 2 => .exit k

/-- What is asked of regions that draw their order. -/
def DrawSnd (P : Program) (C : Oracle) : Prop :=
  ∀ (cf : Cfg) (ρ : RM) (μ : MM) (s s' : St) (a : Act) (w : World) (ext : List Nat) (id : Nat) (ops : Array Oper) (Q : Exit → Act → World → Prop), Rel cf ρ μ s a w → (regionM P C cf ext ops true s).run = some s' →
    (∀ ρ' μ' a' w', Rel cf ρ' μ' s' a' w' → Evo ρ μ s.L s.H w ρ' μ' s'.L s'.H w' → Keeps (opWrites ops.toList) a a' → Q .normal a' w') → (Code.region id ops true).wp P Q a w

def loopSt (ins : List (Nat × TypeId)) (lins : List (Nat × TypeId × Bool)) (xs : List PV) (H : AH) : St :=
  ⟨ptrE (zipE (fun _ => .undef) ins (xs.take ins.length)) (lins.map fun x => (x.1, x.2.1)), linsL lins (xs.drop ins.length), H⟩

/-- What is asked of an oracle's word on a loop: this many rounds. -/
def SndLp (P : Program) (T : Table) (C : Oracle) (N : Nat) : Prop :=
  ∀ f id xs H o, C (.loop f id) xs H = some o → ∀ fn c0 c id' ins lins ws h, P.funcs[f]? = some fn → fn.body = some c0 → findLoop c0 (T f).hint id = some (c, .lp id' ins lins ws h) →
    ∀ ρ μ a w (Q : Exit → Act → World → Prop), Rel ⟨f, fn.ntmps, (T f).heap⟩ ρ μ (loopSt ins lins xs H) a w →
      (∀ ρ' μ' st' a' w', Rel ⟨f, fn.ntmps, (T f).heap⟩ ρ' μ' st' a' w' → Evo ρ μ (loopSt ins lins xs H).L H w ρ' μ' st'.L st'.H w' → Keeps (writes c) a a' → (packW ws (o.e, st')).run = some o → o.e ≠ 0 → Q (exOf o.e) a' w') →
      Code.rounds P c Q N a w

section
variable {P : Program} {cf : Cfg}

theorem Rel.rol {ρ : RM} {μ : MM} {s : St} {a : Act} {w : World} (h : Rel cf ρ μ s a w) (keep : List Nat) : Rel cf ρ μ ⟨s.env, roL s.L keep, s.H⟩ a w where
  size := h.size
  slot := h.slot
  lps t t' o e := by
    have := h.lps t t' o e
    show (roL s.L keep t').isSome = true
    simp only [roL, Option.isSome_map]; exact this
  rl := by
    refine ⟨fun t c ht => ?_, fun t c k b kk bs ht => ?_, fun t t' c c' k ht ht' => ?_⟩
    · simp only [roL, Option.map_eq_some_iff] at ht
      obtain ⟨c0, h1, rfl⟩ := ht
      exact h.rl.blk t c0 h1
    · simp only [roL, Option.map_eq_some_iff] at ht
      obtain ⟨c0, h1, rfl⟩ := ht
      exact h.rl.apart t c0 k b kk bs h1
    · simp only [roL, Option.map_eq_some_iff] at ht ht'
      obtain ⟨c0, h1, rfl⟩ := ht
      obtain ⟨c1, h2, rfl⟩ := ht'
      exact h.rl.inj t t' c0 c1 k h1 h2
  rh := h.rh
  defers := h.defers

theorem louts_mem {ws : List Ways} {x : Ways} (hx : x ∈ ws) {y : Nat × TypeId} (hy : y ∈ x.louts) : y.1 ∈ loutsOf ws :=
  List.mem_flatMap.2 ⟨x, hx, List.mem_map.2 ⟨y, hy, rfl⟩⟩

theorem opWrites_sub {id : Nat} {ops : Array Oper} {d : Bool} (t : Nat) (h : t ∈ opWrites ops.toList) : t ∈ writes (.region id ops d) := List.mem_append_left _ h

theorem exOf_inj {i j : Nat} (h : exOf i = exOf j) : i = j := by
  match i, j with
  | 0, 0 => rfl
  | 1, 1 => rfl
  | i + 2, j + 2 => simp only [exOf, Exit.exit.injEq] at h; omega
  | 0, 1 => cases h
  | 1, 0 => cases h
  | 0, j + 2 => cases h
  | i + 2, 0 => cases h
  | 1, j + 2 => cases h
  | i + 2, 1 => cases h

theorem inBlock_of {id n : Nat} {Q : Exit → Act → World → Prop} {a : Act} {w : World} (h : Q (exOf (cond (Nat.beq n (id + 2)) 0 n)) a w) : Exit.inBlock id Q (exOf n) a w := by
  by_cases hn : n = id + 2
  · subst hn
    simp only [Nat.beq_eq_true_eq, cond_true, Nat.beq_refl] at h
    simp only [exOf, Exit.inBlock, if_true]
    exact h
  · rw [beq_ne hn, cond_false] at h
    match n, h with
    | 0, h => exact h
    | 1, h => exact h
    | k + 2, h =>
      have : k ≠ id := fun e => hn (by rw [e])
      simp only [exOf, Exit.inBlock, this, if_false]
      exact h

theorem noGoto_of {n : Nat} {Q : Exit → Act → World → Prop} {a : Act} {w : World} (h : Q (exOf n) a w) : Exit.noGoto Q (exOf n) a w := by
  match n, h with
  | 0, h => exact h
  | 1, h => exact h
  | k + 2, h => exact h

theorem then_of {n : Nat} {K : Act → World → Prop} {Q : Exit → Act → World → Prop} {a : Act} {w : World} (h0 : n = 0 → K a w) (h1 : n ≠ 0 → Q (exOf n) a w) : Exit.then K Q (exOf n) a w := by
  match n, h0, h1 with
  | 0, h0, _ => exact h0 rfl
  | 1, _, h1 => exact h1 (by omega)
  | k + 2, _, h1 => exact h1 (by omega)

def Answers (P : Program) (cf : Cfg) (c : Code) (s : St) (q : Nat × St) : Prop :=
  ∀ ρ μ a w (Q : Exit → Act → World → Prop), Rel cf ρ μ s a w →
    (∀ ρ' μ' a' w', Rel cf ρ' μ' q.2 a' w' → Evo ρ μ s.L s.H w ρ' μ' q.2.L q.2.H w' → Keeps (writes c) a a' → Q (exOf q.1) a' w') → c.wp P Q a w

theorem linsL_mem : ∀ {lins : List (Nat × TypeId × Bool)} {ps : List PV} {t : Nat} {c : LB}, linsL lins ps t = some c → ∃ x ∈ lins, x.1 = t ∧ c.ro = !x.2.2
  | [], _, t, c, h => by simp [linsL] at h
  | _ :: _, [], t, c, h => by simp [linsL] at h
  | (u, ty, b) :: l, p :: ps, t, c, h => by
    simp only [linsL] at h
    by_cases e : t = u
    · subst e
      rw [updL_self] at h; cases h
      exact ⟨(t, ty, b), List.mem_cons_self, rfl, rfl⟩
    · rw [updL_ne e] at h
      obtain ⟨x, h1, h2⟩ := linsL_mem h
      exact ⟨x, List.mem_cons_of_mem _ h1, h2⟩

theorem linsL_cells {Lv : LM} : ∀ {lins : List (Nat × TypeId × Bool)} {ps : List PV}, All2 (fun (x : Nat × TypeId) p => ∃ c, Lv x.1 = some c ∧ p = PV.agg c.cells) (lins.map fun x => (x.1, x.2.1)) ps → ∀ t c, linsL lins ps t = some c → ∃ c', Lv t = some c' ∧ c'.cells = c.cells
  | [], _, _, t, c, h => by simp [linsL] at h
  | (u, ty, b) :: l, p :: ps, .cons hh hl, t, c, h => by
    simp only [linsL] at h
    by_cases e : t = u
    · subst e
      rw [updL_self] at h; cases h
      obtain ⟨c', h1, rfl⟩ := hh
      exact ⟨c', h1, rfl⟩
    · rw [updL_ne e] at h
      exact linsL_cells hl t c h

theorem linsL_some : ∀ {lins : List (Nat × TypeId × Bool)} {ps : List PV}, lins.length = ps.length → ∀ t, t ∈ lins.map (·.1) → (linsL lins ps t).isSome = true
  | [], _, _, t, h => by simp at h
  | (u, ty, b) :: l, [], h, _, _ => by simp at h
  | (u, ty, b) :: l, p :: ps, hl, t, h => by
    simp only [linsL]
    by_cases e : t = u
    · subst e; rw [updL_self]; rfl
    · rw [updL_ne e]
      refine linsL_some (by simpa using hl) t ?_
      simp only [List.map_cons, List.mem_cons] at h
      exact h.resolve_left e

theorem find_occ {c0 : Code} {h0 : Hint} {id : Nat} {c : Code} {h : Hint} (hd : distinct ((occs c0 h0).map (·.1)) = true) (hm : (id, c, h) ∈ occs c0 h0) : findLoop c0 h0 id = some (c, h) := by
  have : ∀ (l : List (Nat × Code × Hint)), distinct (l.map (·.1)) = true → (id, c, h) ∈ l → (l.find? fun x => Nat.beq x.1 id).map (·.2) = some (c, h) := by
    intro l
    induction l with
    | nil => simp
    | cons x l ih =>
      intro hd hm
      simp only [List.map_cons, distinct, Bool.and_eq_true, List.all_eq_true] at hd
      rcases List.mem_cons.1 hm with rfl | hm
      · simp [List.find?]
      · have hx : x.1 ≠ id := fun e => by
          have := hd.1 id (List.mem_map.2 ⟨_, hm, rfl⟩)
          rw [e] at this; simp at this
        simp only [List.find?, beq_ne hx]
        exact ih hd.2 hm
  exact this _ hd hm

/-- A loop starts in what its caller holds. -/
theorem loop_start {ρ : RM} {μ : MM} {s : St} {a : Act} {w : World} (hR : Rel cf ρ μ s a w) {ins : List (Nat × TypeId)} {lins : List (Nat × TypeId × Bool)} {xa xb : List PV}
    (ha : (packOuts s.env ins).run = some xa) (hb : (packLs s.env s.L (lins.map fun x => (x.1, x.2.1))).run = some xb) : Rel cf ρ μ (loopSt ins lins (xa ++ xb) s.H) a w := by
  have ha := packOuts_run ha
  have hb := packLs_run hb
  have hb' : All2 (fun (x : Nat × TypeId) p => ∃ c, s.L x.1 = some c ∧ p = PV.agg c.cells) (lins.map fun x => (x.1, x.2.1)) xb := hb.imp fun x p ⟨c, h1, _, h2⟩ => ⟨c, h1, h2⟩
  have e1 : (xa ++ xb).take ins.length = xa := by rw [ha.length]; simp
  have e2 : (xa ++ xb).drop ins.length = xb := by rw [ha.length]; simp
  have hze := zipE_eq (fun _ => AV.undef) ha
  have hpt := fun t => ptrE_eq (l := lins.map fun x => (x.1, x.2.1)) (zipE (fun _ => .undef) ins xa) t
  have hmap : (lins.map fun x => (x.1, x.2.1)).map (·.1) = lins.map (·.1) := by simp
  have hcells := linsL_cells hb'
  have hls := linsL_some (by have := hb.length; simpa using this)
  unfold loopSt
  rw [e1, e2]
  refine ⟨hR.size, fun t => ?_, fun t t' o he => ?_, ⟨fun t c ht => ?_, fun t c k b kk bs ht => ?_, fun t t' c c' k ht ht' => ?_⟩, hR.rh, hR.defers⟩
  · simp only
    by_cases hm : t ∈ (lins.map fun x => (x.1, x.2.1)).map (·.1)
    · rw [(hpt t).1 hm]
      have := hR.slot t
      obtain ⟨x, hx, rfl⟩ := List.mem_map.1 hm
      obtain ⟨p, c, _, h2, _⟩ := hb.mem x hx
      rw [h2] at this
      exact this
    · rw [(hpt t).2 hm]
      by_cases ho : t ∈ ins.map (·.1)
      · rw [(hze t).1 ho]; exact hR.slot t
      · rw [(hze t).2 ho]; trivial
  · simp only at he ⊢
    by_cases hm : t ∈ (lins.map fun x => (x.1, x.2.1)).map (·.1)
    · rw [(hpt t).1 hm] at he; cases he
      rw [hmap] at hm
      exact hls t hm
    · rw [(hpt t).2 hm] at he
      by_cases ho : t ∈ ins.map (·.1)
      · rw [(hze t).1 ho] at he
        obtain ⟨x, hx, rfl⟩ := List.mem_map.1 ho
        obtain ⟨p, h1⟩ := ha.mem x hx
        rw [h1] at he; cases he
      · rw [(hze t).2 ho] at he; cases he
  · obtain ⟨c', h1, h2⟩ := hcells t c ht
    obtain ⟨k, cs, ty, h3, h4, h5, h6⟩ := hR.rl.blk t c' h1
    exact ⟨k, cs, ty, h3, h4, by rw [← h2]; exact h5, by rw [← h2]; exact h6⟩
  · obtain ⟨c', h1, h2⟩ := hcells t c ht
    exact hR.rl.apart t c' k b kk bs h1
  · obtain ⟨c1, h1, _⟩ := hcells t c ht
    obtain ⟨c2, h2, _⟩ := hcells t' c' ht'
    exact hR.rl.inj t t' c1 c2 k h1 h2

theorem seq_sound {x y : Code} {s : St} {q : Nat × St} {q2 : Nat × St} (h1 : Answers P cf x s q) (h0 : q.1 = 0 → Answers P cf y q.2 q2) (hn : q.1 ≠ 0 → q2 = q) : Answers P cf (.seq x y) s q2 := by
  intro ρ μ a w Q hR hQ
  refine wp_seq (h1 ρ μ a w _ hR fun ρ' μ' a' w' hR' hE hk => then_of (fun e => ?_) fun e => ?_)
  · exact h0 e ρ' μ' a' w' Q hR' fun ρ'' μ'' a'' w'' hR'' hE' hk' => hQ ρ'' μ'' a'' w'' hR'' (hE.trans hE') ((hk.mono fun t ht => List.mem_append_left _ ht).trans (hk'.mono fun t ht => List.mem_append_right _ ht))
  · have := hn e
    subst this
    exact hQ ρ' μ' a' w' hR' hE (hk.mono fun t ht => List.mem_append_left _ ht)

/-- The way goes on in the second part, or ends where the first ended. -/
theorem next_run {f : Nat × St → A (Nat × St)} {q r : Nat × St} (h : (match q.1 with | 0 => f q | _ => .ret q : A (Nat × St)).run = some r) : (q.1 = 0 → (f q).run = some r) ∧ (q.1 ≠ 0 → r = q) := by
  obtain ⟨n, s⟩ := q
  cases n with
  | zero => exact ⟨fun _ => h, fun e => absurd rfl e⟩
  | succ n =>
    simp only [A.run, Option.some.injEq] at h
    exact ⟨fun e => by simp at e, fun _ => h.symm⟩
end

section
variable {P : Program} {T : Table} {C : Oracle} {N : Nat}

theorem aev_sound (hC : SndFn P C) (hD : DrawSnd P C) (hL : SndLp P T C N) {f : Nat} {fn : Func} {c0 : Code} (hf : P.funcs[f]? = some fn) (hb : fn.body = some c0) (hd : distinct ((occs c0 (T f).hint).map (·.1)) = true) :
    ∀ (c : Code) (h : Hint) (s : St) (q : Nat × St), (∀ x ∈ occs c h, x ∈ occs c0 (T f).hint) → (aev P C ⟨f, fn.ntmps, (T f).heap⟩ c h s).run = some q → Answers P ⟨f, fn.ntmps, (T f).heap⟩ c s q
  | .skip, h, s, q, ho, hr => by
    simp only [aev, A.run, Option.some.injEq] at hr; subst hr
    intro ρ μ a w Q hR hQ
    exact wp_skip (hQ ρ μ a w hR (Evo.refl ..) (Keeps.refl _ _))
  | .label _, h, s, q, ho, hr => by
    simp only [aev, A.run, Option.some.injEq] at hr; subst hr
    intro ρ μ a w Q hR hQ
    exact wp_label (hQ ρ μ a w hR (Evo.refl ..) (Keeps.refl _ _))
  | .ret, h, s, q, ho, hr => by
    simp only [aev, A.run, Option.some.injEq] at hr; subst hr
    intro ρ μ a w Q hR hQ
    exact wp_ret (hQ ρ μ a w hR (Evo.refl ..) (Keeps.refl _ _))
  | .exit id, h, s, q, ho, hr => by
    simp only [aev, A.run, Option.some.injEq] at hr; subst hr
    intro ρ μ a w Q hR hQ
    exact wp_exit (hQ ρ μ a w hR (Evo.refl ..) (Keeps.refl _ _))
  | .region id ops draw, h, s, q, ho, hr => by
    simp only [aev, A.run_bind, Option.bind_eq_some_iff, A.run, Option.some.injEq] at hr
    obtain ⟨s', h1, rfl⟩ := hr
    intro ρ μ a w Q hR hQ
    have hQ' : ∀ ρ' μ' a' w', Rel _ ρ' μ' s' a' w' → Evo ρ μ s.L s.H w ρ' μ' s'.L s'.H w' → Keeps (opWrites ops.toList) a a' → Q .normal a' w' := fun ρ' μ' a' w' r1 r2 r3 => hQ ρ' μ' a' w' r1 r2 (r3.mono fun t ht => opWrites_sub t ht)
    cases draw with
    | false => exact region_sound hC hR h1 hQ'
    | true => exact hD _ ρ μ s s' a w _ id ops Q hR h1 hQ'
  | .cond c x y, h, s, q, ho, hr => by
    simp only [aev, A.run_bind, Option.bind_eq_some_iff, A.run] at hr
    obtain ⟨t, h1, h2⟩ := hr
    intro ρ μ a w Q hR hQ
    have hc := hR.eval c
    rw [asB_run h1] at hc
    cases t with
    | true =>
      simp only [cond_true] at h2
      exact wp_cond_true hc (aev_sound hC hD hL hf hb hd x h.lt s q (fun z hz => ho z (by simp only [occs]; exact List.mem_append_left _ hz)) h2 ρ μ a w Q hR fun ρ' μ' a' w' r1 r2 r3 => hQ ρ' μ' a' w' r1 r2 (r3.mono fun t ht => List.mem_append_left _ ht))
    | false =>
      simp only [cond_false] at h2
      exact wp_cond_false hc (aev_sound hC hD hL hf hb hd y h.rt s q (fun z hz => ho z (by simp only [occs]; exact List.mem_append_right _ hz)) h2 ρ μ a w Q hR fun ρ' μ' a' w' r1 r2 r3 => hQ ρ' μ' a' w' r1 r2 (r3.mono fun t ht => List.mem_append_right _ ht))
  | .block id c, h, s, q, ho, hr => by
    simp only [aev, A.run_bind, Option.bind_eq_some_iff, A.run, Option.some.injEq] at hr
    obtain ⟨q1, h1, rfl⟩ := hr
    intro ρ μ a w Q hR hQ
    exact wp_block (aev_sound hC hD hL hf hb hd c h.lt s q1 ho h1 ρ μ a w _ hR fun ρ' μ' a' w' r1 r2 r3 => inBlock_of (hQ ρ' μ' a' w' r1 r2 r3))
  | .scope c, h, s, q, ho, hr => by
    simp only [aev] at hr
    intro ρ μ a w Q hR hQ
    exact wp_scope_straight (aev_sound hC hD hL hf hb hd c h.lt s q ho hr ρ μ a w _ hR fun ρ' μ' a' w' r1 r2 r3 => noGoto_of (hQ ρ' μ' a' w' r1 r2 r3))
  | .seq x y, .no, s, q, ho, hr => by
    simp only [aev, A.run_bind, Option.bind_eq_some_iff] at hr
    obtain ⟨q1, h1, h2⟩ := hr
    obtain ⟨k0, k1⟩ := next_run (f := fun q1 => aev P C ⟨f, fn.ntmps, (T f).heap⟩ y Hint.no.rt q1.2) h2
    exact seq_sound (aev_sound hC hD hL hf hb hd x _ s q1 (fun z hz => ho z (by simp only [occs]; exact List.mem_append_left _ hz)) h1)
      (fun e => aev_sound hC hD hL hf hb hd y _ q1.2 q (fun z hz => ho z (by simp only [occs]; exact List.mem_append_right _ hz)) (k0 e)) k1
  | .seq x y, .sq hx hy, s, q, ho, hr => by
    simp only [aev, A.run_bind, Option.bind_eq_some_iff] at hr
    obtain ⟨q1, h1, h2⟩ := hr
    obtain ⟨k0, k1⟩ := next_run (f := fun q1 => aev P C ⟨f, fn.ntmps, (T f).heap⟩ y (Hint.sq hx hy).rt q1.2) h2
    exact seq_sound (aev_sound hC hD hL hf hb hd x _ s q1 (fun z hz => ho z (by simp only [occs]; exact List.mem_append_left _ hz)) h1)
      (fun e => aev_sound hC hD hL hf hb hd y _ q1.2 q (fun z hz => ho z (by simp only [occs]; exact List.mem_append_right _ hz)) (k0 e)) k1
  | .seq x y, .bl hx, s, q, ho, hr => by
    simp only [aev, A.run_bind, Option.bind_eq_some_iff] at hr
    obtain ⟨q1, h1, h2⟩ := hr
    obtain ⟨k0, k1⟩ := next_run (f := fun q1 => aev P C ⟨f, fn.ntmps, (T f).heap⟩ y (Hint.bl hx).rt q1.2) h2
    exact seq_sound (aev_sound hC hD hL hf hb hd x _ s q1 (fun z hz => ho z (by simp only [occs]; exact List.mem_append_left _ hz)) h1)
      (fun e => aev_sound hC hD hL hf hb hd y _ q1.2 q (fun z hz => ho z (by simp only [occs]; exact List.mem_append_right _ hz)) (k0 e)) k1
  | .seq x y, .dr ext, s, q, ho, hr => by
    simp only [aev, A.run_bind, Option.bind_eq_some_iff] at hr
    obtain ⟨q1, h1, h2⟩ := hr
    obtain ⟨k0, k1⟩ := next_run (f := fun q1 => aev P C ⟨f, fn.ntmps, (T f).heap⟩ y (Hint.dr ext).rt q1.2) h2
    exact seq_sound (aev_sound hC hD hL hf hb hd x _ s q1 (fun z hz => ho z (by simp only [occs]; exact List.mem_append_left _ hz)) h1)
      (fun e => aev_sound hC hD hL hf hb hd y _ q1.2 q (fun z hz => ho z (by simp only [occs]; exact List.mem_append_right _ hz)) (k0 e)) k1
  | .seq x y, .lp id ins lins ws hx, s, q, ho, hr => by
    simp only [aev, A.run_bind, Option.bind_eq_some_iff] at hr
    obtain ⟨q1, h1, h2⟩ := hr
    obtain ⟨k0, k1⟩ := next_run (f := fun q1 => aev P C ⟨f, fn.ntmps, (T f).heap⟩ y (Hint.lp id ins lins ws hx).rt q1.2) h2
    exact seq_sound (aev_sound hC hD hL hf hb hd x _ s q1 (fun z hz => ho z (by simp only [occs]; exact List.mem_append_left _ hz)) h1)
      (fun e => aev_sound hC hD hL hf hb hd y _ q1.2 q (fun z hz => ho z (by simp only [occs]; exact List.mem_append_right _ hz)) (k0 e)) k1
  | .seq x y, .cut ws hx hy, s, q, ho, hr => by
    simp only [aev, A.run_bind, Option.bind_eq_some_iff, A.run] at hr
    obtain ⟨r, ⟨q1, h1, h2⟩, q2, h3, h4⟩ := hr
    obtain ⟨k0, k1⟩ := next_run (f := fun q1 => aev P C ⟨f, fn.ntmps, (T f).heap⟩ y hy q1.2) h4
    have hx := aev_sound hC hD hL hf hb hd x _ _ q1 (fun z hz => ho z (by simp only [occs]; exact List.mem_append_left _ hz)) h1
    refine seq_sound (q := q2) ?_ (fun e => aev_sound hC hD hL hf hb hd y _ q2.2 q (fun z hz => ho z (by simp only [occs]; exact List.mem_append_right _ hz)) (k0 e)) k1
    intro ρ μ a w Q hR hQ
    refine hx ρ μ a w Q (hR.rol _) fun ρ' μ' a' w' r1 r2 r3 => ?_
    obtain ⟨e, μ'', r4, r5⟩ := unpack_sound (e := q1.1) (st' := q1.2) hR r1 r2 r3 (fun t c ht => by
      simp only [roL, Option.map_eq_some_iff] at ht
      obtain ⟨c', h1, rfl⟩ := ht
      refine ⟨c', h1, fun hro => ?_⟩
      simp only [Bool.or_eq_false_iff, Bool.not_eq_false'] at hro
      exact ⟨hro.1, List.contains_iff_mem.1 hro.2⟩) (fun x hx y hy hs => by
        simp only [roL, Option.isSome_map]; exact hs) h2 h3
    rw [← e]
    exact hQ ρ' μ'' a' w' r4 r5 r3
  | .loop c, .lp id ins lins ws hx, s, q, ho, hr => by
    simp only [aev, A.run_bind, Option.bind_eq_some_iff] at hr
    obtain ⟨xa, h1, xb, h2, h3⟩ := hr
    obtain ⟨hok, h3⟩ := br_run h3
    simp only [A.run, A.run_bind, Option.bind_eq_some_iff] at h3
    obtain ⟨r, h4, q', h5, h6⟩ := h3
    have hq : q = q' := by
      cases hb : Nat.beq q'.1 0 with
      | true => rw [hb] at h6; simp at h6
      | false => rw [hb] at h6; simp at h6; exact h6.symm
    subst hq
    simp only [Bool.and_eq_true, List.all_eq_true] at hok
    intro ρ μ a w Q hR hQ
    refine wp_loop_rounds N (hL f id _ _ r h4 fn c0 c id ins lins ws hx hf hb (find_occ hd (ho _ (by simp [occs]))) ρ μ a w Q (loop_start hR h1 h2) fun ρ' μ' st' a' w' r1 r2 r3 r4 r5 => ?_)
    have hpl := packLs_run h2
    have hb' : All2 (fun (x : Nat × TypeId) p => ∃ c, s.L x.1 = some c ∧ p = PV.agg c.cells) (lins.map fun x => (x.1, x.2.1)) xb := hpl.imp fun x p ⟨c, h1, _, h2⟩ => ⟨c, h1, h2⟩
    have e2 : (xa ++ xb).drop ins.length = xb := by rw [(packOuts_run h1).length]; simp
    obtain ⟨e, μ'', r6, r7⟩ := unpack_sound (e := r.e) (st' := st') (Li := linsL lins xb) hR r1 (by have := r2; simp only [loopSt, e2] at this; exact this) r3 (fun t c ht => by
      obtain ⟨c', h1, h2⟩ := linsL_cells hb' t c ht
      refine ⟨c', h1, fun hro => ?_⟩
      obtain ⟨x, hx1, hx2, hx3⟩ := linsL_mem ht
      rw [hx3] at hro
      have hw : x.2.2 = true := by simpa using hro
      refine ⟨?_, List.mem_filterMap.2 ⟨x, hx1, by simp [hw, hx2]⟩⟩
      have := hok.1 x hx1
      rw [hw] at this
      simp only [Bool.not_true, Bool.false_or, Bool.not_eq_true', hx2, roOf, h1] at this
      exact this) (fun x hx y hy hs => by
        have := hok.2 x hx
        have := this y hy
        rw [hs] at this
        simp only [Bool.not_true, Bool.false_or] at this
        exact linsL_some (by simpa using hpl.length) _ (List.contains_iff_mem.1 this)) r4 h5
    rw [← e]
    exact hQ ρ' μ'' a' w' r6 r7 r3
  | .loop c, .no, s, q, ho, hr => by simp [aev, A.run] at hr
  | .loop c, .sq _ _, s, q, ho, hr => by simp [aev, A.run] at hr
  | .loop c, .bl _, s, q, ho, hr => by simp [aev, A.run] at hr
  | .loop c, .dr _, s, q, ho, hr => by simp [aev, A.run] at hr
  | .loop c, .cut .., s, q, ho, hr => by simp [aev, A.run] at hr
  | .goto _, h, s, q, ho, hr => by simp [aev, A.run] at hr
  | .refuse _, h, s, q, ho, hr => by simp [aev, A.run] at hr
  | .rangeFunc .., h, s, q, ho, hr => by simp [aev, A.run] at hr
end
end Go.Abs
/- In which pairs of operations the order does not count. -/
namespace Go.Abs
set_option linter.unusedVariables false
set_option linter.unusedSimpArgs false

def lv (H : AH) (b : Nat) : Option (List Sc × Nat) := H[b]?.bind fun k => match k.st with | .ro | .rw => some (k.cells, k.z) | _ => none
def inS (base : Nat) (l : List Nat) (b : Nat) : Prop := ∃ r ∈ l, b = base + r

theorem killAll_length : ∀ (l : List Nat) (H : AH) (base : Nat), (killAll H base l).length = H.length
  | [], H, base => rfl
  | r :: l, H, base => by simp [killAll, killAll_length l]
theorem killAll_out : ∀ (l : List Nat) (H : AH) (base b : Nat), ¬ inS base l b → (killAll H base l)[b]? = H[b]?
  | [], H, base, b, h => rfl
  | r :: l, H, base, b, h => by
    simp only [killAll]
    rw [killAll_out l _ base b fun ⟨r', h1, h2⟩ => h ⟨r', List.mem_cons_of_mem _ h1, h2⟩]
    have : base + r ≠ b := fun e => h ⟨r, List.mem_cons_self, e.symm⟩
    simp [List.getElem?_set, this]
theorem killAll_dead : ∀ (l : List Nat) (H : AH) (base b : Nat), H[b]? = some deadB → (killAll H base l)[b]? = some deadB
  | [], H, base, b, h => h
  | r :: l, H, base, b, h => by
    simp only [killAll]
    refine killAll_dead l _ base b ?_
    by_cases e : base + r = b
    · have := (List.getElem?_eq_some_iff.1 h).1
      simp [List.getElem?_set, e, this]
    · simp [List.getElem?_set, e]; exact h
theorem killAll_in : ∀ (l : List Nat) (H : AH) (base b : Nat), inS base l b → (killAll H base l)[b]? = if b < H.length then some deadB else none
  | r :: l, H, base, b, ⟨r', h1, h2⟩ => by
    by_cases hb : b < H.length
    · rw [if_pos hb]
      simp only [killAll]
      by_cases e : base + r = b
      · exact killAll_dead l _ base b (by simp [List.getElem?_set, e, hb])
      · have hm : r' ∈ l := by
          rcases List.mem_cons.1 h1 with rfl | h
          · exact absurd h2.symm e
          · exact h
        rw [killAll_in l _ base b ⟨r', hm, h2⟩]
        simp [hb]
    · rw [if_neg hb, List.getElem?_eq_none]
      rw [killAll_length]; omega

theorem restAll_length (H : AH) : ∀ (l : List Nat) (X : AH) (base : Nat), (restAll H X base l).length = X.length
  | [], X, base => rfl
  | r :: l, X, base => by simp [restAll, restAll_length H l, restB]
theorem restAll_out (H : AH) : ∀ (l : List Nat) (X : AH) (base b : Nat), ¬ inS base l b → (restAll H X base l)[b]? = X[b]?
  | [], X, base, b, h => rfl
  | r :: l, X, base, b, h => by
    simp only [restAll]
    rw [restAll_out H l _ base b fun ⟨r', h1, h2⟩ => h ⟨r', List.mem_cons_of_mem _ h1, h2⟩]
    have : base + r ≠ b := fun e => h ⟨r, List.mem_cons_self, e.symm⟩
    simp [restB, List.getElem?_set, this]
theorem restAll_keep (H : AH) : ∀ (l : List Nat) (X : AH) (base b : Nat), X[b]? = some (H[b]?.getD deadB) → (restAll H X base l)[b]? = some (H[b]?.getD deadB)
  | [], X, base, b, h => h
  | r :: l, X, base, b, h => by
    simp only [restAll]
    refine restAll_keep H l _ base b ?_
    by_cases e : base + r = b
    · have := (List.getElem?_eq_some_iff.1 h).1
      simp [restB, List.getElem?_set, e, this]
    · simp only [restB, List.getElem?_set, e, if_false]; exact h
theorem restAll_in (H : AH) : ∀ (l : List Nat) (X : AH) (base b : Nat), inS base l b → (restAll H X base l)[b]? = if b < X.length then some (H[b]?.getD deadB) else none
  | r :: l, X, base, b, ⟨r', h1, h2⟩ => by
    by_cases hb : b < X.length
    · rw [if_pos hb]
      simp only [restAll]
      by_cases e : base + r = b
      · exact restAll_keep H l _ base b (by simp [restB, List.getElem?_set, e, hb])
      · have hm : r' ∈ l := by
          rcases List.mem_cons.1 h1 with rfl | h
          · exact absurd h2.symm e
          · exact h
        rw [restAll_in H l _ base b ⟨r', hm, h2⟩]
        simp [restB, hb]
    · rw [if_neg hb, List.getElem?_eq_none]
      rw [restAll_length]; omega

theorem killAll_set {H : AH} {base p : Nat} {l : List Nat} {k : Blk} (hp : inS base l p) : killAll (H.set p k) base l = killAll H base l := by
  refine List.ext_getElem? fun b => ?_
  by_cases hb : inS base l b
  · rw [killAll_in _ _ _ _ hb, killAll_in _ _ _ _ hb]; simp
  · rw [killAll_out _ _ _ _ hb, killAll_out _ _ _ _ hb]
    have : p ≠ b := fun e => hb (e ▸ hp)
    simp [List.getElem?_set, this]

abbrev Eff := LM → AH → Option Fx
def Comm (F G : Eff) : Prop := ∀ L H x y, F L H = some x → G x.L x.H = some y → ∃ L' H', G L H = some ⟨y.v, L', H'⟩ ∧ F L' H' = some ⟨x.v, y.L, y.H⟩
def Free (F : Eff) : Prop := ∀ L H x, F L H = some x → x.L = L ∧ x.H = H ∧ ∀ L' H', F L' H' = some ⟨x.v, L', H'⟩
def Loads (lu hu : List Nat) (base : Nat) (au ag : Bool) (F : Eff) : Prop := ∀ L H x, F L H = some x → x.L = L ∧ x.H = H ∧
  ∀ L' H', maskL L' lu = maskL L lu → (au = false → ∀ b, (ag = true → b < base) → lv (killAll H' base hu) b = lv (killAll H base hu) b) → F L' H' = some ⟨x.v, L', H'⟩
def Allocs (d : Nat) (F : Eff) : Prop := ∀ L H x, F L H = some x → L d = none ∧ x.H = H ∧ ∃ c, x.L = updL L d (some c) ∧ ∀ L' H', L' d = none → F L' H' = some ⟨x.v, updL L' d (some c), H'⟩
def Freshes (p : Nat) (F : Eff) : Prop := ∀ L H x, F L H = some x → isRes H p = true ∧ x.L = L ∧ ∃ k, x.H = H.set p k ∧ ∀ L' H', isRes H' p = true → F L' H' = some ⟨x.v, L', H'.set p k⟩
def Acts (hu : List Nat) (base : Nat) (hold : Bool) (F : Eff) : Prop := ∀ L H x, F L H = some x → x.L = L ∧ ∃ X, x.H = restAll H X base hu ∧ (hold = true → X.take base = H.take base) ∧ (hu ≠ [] → H.length ≤ X.length) ∧
  ∀ L' H', killAll H' base hu = killAll H base hu → F L' H' = some ⟨x.v, L', restAll H' X base hu⟩

theorem comm_free_l {F G : Eff} (h : Free F) : Comm F G := fun L H x y h1 h2 => by
  obtain ⟨e1, e2, k⟩ := h L H x h1
  rw [e1, e2] at h2
  exact ⟨y.L, y.H, h2, k _ _⟩
theorem comm_free_r {F G : Eff} (h : Free G) : Comm F G := fun L H x y h1 h2 => by
  obtain ⟨e1, e2, k⟩ := h _ _ y h2
  exact ⟨L, H, k _ _, by rw [e1, e2]; exact h1⟩

section
variable {F G : Eff} {lu hu lu' hu' : List Nat} {base d d' p p' : Nat} {au ag au' ag' hold : Bool}

theorem comm_loads (h : Loads lu hu base au ag F) (k : Loads lu' hu' base au' ag' G) : Comm F G := fun L H x y h1 h2 => by
  obtain ⟨e1, e2, _⟩ := h L H x h1
  rw [e1, e2] at h2
  obtain ⟨e3, e4, _⟩ := k L H y h2
  refine ⟨L, H, ?_, ?_⟩
  · rw [h2, ← e3, ← e4]
  · rw [e3, e4, h1, ← e1, ← e2]

theorem mask_upd {L : LM} {l : List Nat} {d : Nat} {c : Option LB} (h : d ∈ l) : maskL (updL L d c) l = maskL L l := by
  unfold maskL
  cases l with
  | nil => simp at h
  | cons a l =>
    funext t
    simp only
    by_cases e : t = d
    · subst e
      have : (a :: l).contains t = true := List.contains_iff_mem.2 h
      rw [this]; rfl
    · rw [updL_ne e]

theorem comm_load_alloc (h : Loads lu hu base au ag F) (k : Allocs d G) (hd : d ∈ lu) : Comm F G := fun L H x y h1 h2 => by
  obtain ⟨e1, e2, f⟩ := h L H x h1
  rw [e1, e2] at h2
  obtain ⟨hn, e3, c, e4, g⟩ := k L H y h2
  refine ⟨y.L, y.H, h2, f _ _ ?_ ?_⟩
  · rw [e4]; exact mask_upd hd
  · rw [e3]; exact fun _ _ _ => rfl
theorem comm_alloc_load (h : Allocs d F) (k : Loads lu hu base au ag G) (hd : d ∈ lu) : Comm F G := fun L H x y h1 h2 => by
  obtain ⟨hn, e3, c, e4, g⟩ := h L H x h1
  obtain ⟨e1, e2, f⟩ := k _ _ y h2
  refine ⟨L, H, f _ _ ?_ ?_, by rw [e1, e2]; exact h1⟩
  · rw [e4]; exact (mask_upd hd).symm
  · rw [e3]; exact fun _ _ _ => rfl
theorem comm_load_fresh (h : Loads lu hu base au ag F) (k : Freshes p G) (hp : inS base hu p) : Comm F G := fun L H x y h1 h2 => by
  obtain ⟨e1, e2, f⟩ := h L H x h1
  rw [e1, e2] at h2
  obtain ⟨hn, e3, c, e4, g⟩ := k L H y h2
  refine ⟨y.L, y.H, h2, f _ _ (by rw [e3]) fun _ b _ => ?_⟩
  rw [e4, killAll_set hp]
theorem comm_fresh_load (h : Freshes p F) (k : Loads lu hu base au ag G) (hp : inS base hu p) : Comm F G := fun L H x y h1 h2 => by
  obtain ⟨hn, e3, c, e4, g⟩ := h L H x h1
  obtain ⟨e1, e2, f⟩ := k _ _ y h2
  refine ⟨L, H, f _ _ (by rw [e3]) fun _ b _ => ?_, by rw [e1, e2]; exact h1⟩
  rw [e4, killAll_set hp]

theorem take_get {X H : AH} {base b : Nat} (h : X.take base = H.take base) (hb : b < base) : X[b]? = H[b]? := by
  have := congrArg (fun l => l[b]?) h
  simpa [List.getElem?_take, hb] using this
theorem lv_low {hu hu' : List Nat} {X H : AH} {base b : Nat} (h : X.take base = H.take base) (hb : b < base) : lv (killAll (restAll H X base hu') base hu) b = lv (killAll H base hu) b := by
  have hn : ∀ l, ¬ inS base l b := fun l ⟨r, _, e⟩ => by omega
  unfold lv
  rw [killAll_out _ _ _ _ (hn _), killAll_out _ _ _ _ (hn _), restAll_out _ _ _ _ _ (hn _), take_get h hb]

theorem comm_load_act (h : Loads lu hu base au ag F) (k : Acts hu' base hold G) (hh : au = false → ag = true ∧ hold = true) : Comm F G := fun L H x y h1 h2 => by
  obtain ⟨e1, e2, f⟩ := h L H x h1
  rw [e1, e2] at h2
  obtain ⟨e3, X, e4, e5, e6, g⟩ := k L H y h2
  refine ⟨y.L, y.H, h2, f _ _ (by rw [e3]) fun ha b hb => ?_⟩
  obtain ⟨g1, g2⟩ := hh ha
  rw [e4, lv_low (e5 g2) (hb g1)]
theorem comm_act_load (h : Acts hu' base hold F) (k : Loads lu hu base au ag G) (hh : au = false → ag = true ∧ hold = true) : Comm F G := fun L H x y h1 h2 => by
  obtain ⟨e3, X, e4, e5, e6, g⟩ := h L H x h1
  obtain ⟨e1, e2, f⟩ := k _ _ y h2
  refine ⟨L, H, f _ _ (by rw [e3]) fun ha b hb => ?_, by rw [e1, e2]; exact h1⟩
  obtain ⟨g1, g2⟩ := hh ha
  rw [e4, lv_low (e5 g2) (hb g1)]

theorem updL_comm {L : LM} {c c' : Option LB} (h : d ≠ d') : updL (updL L d c) d' c' = updL (updL L d' c') d c := by
  funext t
  by_cases e : t = d
  · subst e; rw [updL_ne h, updL_self, updL_self]
  · by_cases e' : t = d'
    · subst e'; rw [updL_self, updL_ne e, updL_self]
    · rw [updL_ne e', updL_ne e, updL_ne e, updL_ne e']

theorem comm_allocs (h : Allocs d F) (k : Allocs d' G) (hd : d ≠ d') : Comm F G := fun L H x y h1 h2 => by
  obtain ⟨hn, e3, c, e4, g⟩ := h L H x h1
  obtain ⟨hn', e3', c', e4', g'⟩ := k _ _ y h2
  rw [e4, updL_ne hd.symm] at hn'
  refine ⟨_, _, g' L H hn', ?_⟩
  rw [g _ _ (by rw [updL_ne hd]; exact hn), e4', e3', e4, e3, updL_comm hd]
theorem comm_alloc_fresh (h : Allocs d F) (k : Freshes p G) : Comm F G := fun L H x y h1 h2 => by
  obtain ⟨hn, e3, c, e4, g⟩ := h L H x h1
  obtain ⟨hr, e5, b, e6, g'⟩ := k _ _ y h2
  rw [e3] at hr e6
  exact ⟨_, _, g' L H hr, by rw [g _ _ hn, e5, e6, e4]⟩
theorem comm_fresh_alloc (h : Freshes p F) (k : Allocs d G) : Comm F G := fun L H x y h1 h2 => by
  obtain ⟨hr, e5, b, e6, g'⟩ := h L H x h1
  obtain ⟨hn, e3, c, e4, g⟩ := k _ _ y h2
  rw [e5] at hn e4
  exact ⟨_, _, g L H hn, by rw [g' _ _ hr, e4, e3, e6]⟩
theorem comm_alloc_act (h : Allocs d F) (k : Acts hu base hold G) : Comm F G := fun L H x y h1 h2 => by
  obtain ⟨hn, e3, c, e4, g⟩ := h L H x h1
  obtain ⟨e5, X, e6, _, _, g'⟩ := k _ _ y h2
  rw [e3] at e6
  exact ⟨_, _, g' L H (by rw [e3]), by rw [g _ _ hn, e5, e6, e4]⟩
theorem comm_act_alloc (h : Acts hu base hold F) (k : Allocs d G) : Comm F G := fun L H x y h1 h2 => by
  obtain ⟨e5, X, e6, _, _, g'⟩ := h L H x h1
  obtain ⟨hn, e3, c, e4, g⟩ := k _ _ y h2
  rw [e5] at hn e4
  exact ⟨_, _, g L H hn, by rw [g' _ _ rfl, e4, e3, e6]⟩

theorem isRes_set {H : AH} {k : Blk} (h : p ≠ p') : isRes (H.set p k) p' = isRes H p' := by
  unfold isRes
  rw [List.getElem?_set_ne h]
theorem isRes_lt {H : AH} (h : isRes H p = true) : ∃ k, H[p]? = some k ∧ k.st = .res := by
  unfold isRes at h
  split at h
  · rename_i k e; exact ⟨k, e, by simpa using h⟩
  · cases h
theorem comm_freshes (h : Freshes p F) (k : Freshes p' G) (hp : p ≠ p') : Comm F G := fun L H x y h1 h2 => by
  obtain ⟨hr, e5, b, e6, g⟩ := h L H x h1
  obtain ⟨hr', e5', b', e6', g'⟩ := k _ _ y h2
  rw [e6, isRes_set hp] at hr'
  refine ⟨_, _, g' L H hr', ?_⟩
  rw [g _ _ (by rw [isRes_set hp.symm]; exact hr), e5', e5, e6', e6, List.set_comm _ _ hp]

theorem rest_set {H X : AH} {k : Blk} (hp : inS base hu p) (hl : p < X.length) (hH : p < H.length) : (restAll H X base hu).set p k = restAll (H.set p k) X base hu := by
  refine List.ext_getElem? fun b => ?_
  by_cases e : p = b
  · subst e
    rw [restAll_in _ _ _ _ _ hp, if_pos hl]
    simp [List.getElem?_set, restAll_length, hl, hH]
  · rw [List.getElem?_set_ne e]
    by_cases hb : inS base hu b
    · rw [restAll_in _ _ _ _ _ hb, restAll_in _ _ _ _ _ hb, List.getElem?_set_ne e]
    · rw [restAll_out _ _ _ _ _ hb, restAll_out _ _ _ _ _ hb]

theorem comm_fresh_act (h : Freshes p F) (k : Acts hu base hold G) (hp : inS base hu p) : Comm F G := fun L H x y h1 h2 => by
  obtain ⟨hr, e5, b, e6, g⟩ := h L H x h1
  obtain ⟨e3, X, e4, _, e7, g'⟩ := k _ _ y h2
  have hne : hu ≠ [] := by rintro rfl; obtain ⟨r, h, _⟩ := hp; simp at h
  obtain ⟨kb, hk1, hk2⟩ := isRes_lt hr
  have hH := (List.getElem?_eq_some_iff.1 hk1).1
  have hX : p < X.length := by have := e7 hne; rw [e6] at this; simp at this; omega
  refine ⟨_, _, g' L H (by rw [e6, killAll_set hp]), ?_⟩
  rw [g L (restAll H X base hu) ?_, e3, e5, e4, e6, rest_set hp hX hH]
  unfold isRes
  rw [restAll_in _ _ _ _ _ hp, if_pos hX, hk1]
  simp [hk2]
theorem comm_act_fresh (h : Acts hu base hold F) (k : Freshes p G) (hp : inS base hu p) : Comm F G := fun L H x y h1 h2 => by
  obtain ⟨e3, X, e4, _, e7, g'⟩ := h L H x h1
  obtain ⟨hr, e5, b, e6, g⟩ := k _ _ y h2
  obtain ⟨kb, hk1, hk2⟩ := isRes_lt hr
  rw [e4, restAll_in _ _ _ _ _ hp] at hk1
  have hX : p < X.length := by
    rcases Nat.lt_or_ge p X.length with h | h
    · exact h
    · rw [if_neg (by omega)] at hk1; cases hk1
  rw [if_pos hX] at hk1
  have hH : H[p]? = some kb := by
    cases e : H[p]? with
    | none => rw [e] at hk1; cases hk1; cases hk2
    | some k0 => rw [e] at hk1; exact hk1
  have hlt := (List.getElem?_eq_some_iff.1 hH).1
  refine ⟨_, _, g L H (by unfold isRes; rw [hH]; simp [hk2]), ?_⟩
  rw [g' _ _ (killAll_set hp), e5, e3, e6, e4, rest_set hp hX hlt]
end
end Go.Abs
/- What each operation of a drawn region looks at and changes. -/
namespace Go.Abs
set_option linter.unusedVariables false
set_option linter.unusedSimpArgs false

section
variable {P : Program} {C : Oracle} {cf : Cfg} {fid : Option Nat} {o : Oper} {e : Operand → AV}

/-- Told by a value alone. -/
def Told (x : LM → AH → A Fx) : Prop := ∀ L H r, (x L H).run = some r → r.L = L ∧ r.H = H ∧ ∀ L' H', (x L' H').run = some ⟨r.v, L', H'⟩

theorem told_fail : Told fun _ _ => .fail := fun L H r h => by simp [A.run] at h
theorem told_ret (v : AV) : Told fun L H => .ret ⟨v, L, H⟩ := fun L H r h => by
  simp only [A.run, Option.some.injEq] at h; subst h; exact ⟨rfl, rfl, fun _ _ => rfl⟩
theorem told_bind {α : Type} (a : A α) {k : α → LM → AH → A Fx} (h : ∀ x, Told (k x)) : Told fun L H => a.bind fun x => k x L H := fun L H r hr => by
  simp only [A.run_bind, Option.bind_eq_some_iff] at hr
  obtain ⟨x, h1, h2⟩ := hr
  obtain ⟨e1, e2, f⟩ := h x L H r h2
  exact ⟨e1, e2, fun L' H' => by simp only [A.run_bind, h1, Option.bind_some]; exact f L' H'⟩
theorem told_br (b : Bool) {x y : LM → AH → A Fx} (hx : Told x) (hy : Told y) : Told fun L H => .br b (x L H) (y L H) := by
  cases b
  · exact hy
  · exact hx
theorem told_get {α : Type} (a : Option α) {k : α → LM → AH → A Fx} (h : ∀ x, Told (k x)) : Told fun L H => .get α a fun x => k x L H := by
  cases a with
  | none => intro L H r h; simp [A.run] at h
  | some x => exact h x

theorem told_len (ts : List TypeId) (xs : List AV) : Told fun L H => builtinM P .len ts xs L H := by
  match ts, xs with
  | [t], [x] =>
    simp only [builtinM]
    split
    · exact told_ret _
    · exact told_ret _
    · exact told_ret _
    · exact told_fail
  | [], _ => exact told_fail
  | _ :: _ :: _, _ => exact told_fail
  | [_], [] => exact told_fail
  | [_], _ :: _ :: _ => exact told_fail
theorem told_min (ts : List TypeId) (xs : List AV) : Told fun L H => builtinM P .min ts xs L H := by
  match xs with
  | [] => exact told_fail
  | [_] => exact told_fail
  | x :: y :: xs => simp only [builtinM]; exact told_bind _ fun _ => told_ret _
theorem told_max (ts : List TypeId) (xs : List AV) : Told fun L H => builtinM P .max ts xs L H := by
  match xs with
  | [] => exact told_fail
  | [_] => exact told_fail
  | x :: y :: xs => simp only [builtinM]; exact told_bind _ fun _ => told_ret _

theorem opM_free (hc : clsOf cf o = .pure) : Told fun L H => opM P C cf fid o e L H := by
  obtain ⟨dst, op, type, pos, after, guard⟩ := o
  cases op <;> simp only [clsOf] at hc <;> try cases hc
  case move => exact told_ret _
  case nilCheck y =>
    simp only [opM]
    split
    · exact told_ret _
    · exact told_ret _
    · exact told_fail
  case assign => exact told_ret _
  case pick => exact told_bind _ fun b => told_br _ (told_ret _) (told_ret _)
  case build t parts =>
    simp only [opM]
    split
    · exact told_bind _ fun _ => told_bind _ fun _ => told_bind _ fun _ => told_bind _ fun _ => told_ret _
    · exact told_fail
  case binOp => exact told_bind _ fun _ => told_ret _
  case unOp => exact told_bind _ fun _ => told_ret _
  case convert => exact told_bind _ fun _ => told_ret _
  case slice t x lo hi mx =>
    cases lo with
    | some l => simp at hc
    | none =>
      simp only [opM]
      split
      · refine told_br _ (told_bind _ fun _ => told_bind _ fun _ => told_bind _ fun _ => told_bind _ fun _ => ?_) told_fail
        have : ∀ z, (match Nat.beq z 1, (none : Option Operand) with | false, some _ => A.get Unit none A.ret | _, _ => A.ret () : A Unit) = A.ret () := fun z => by cases Nat.beq z 1 <;> rfl
        intro L H r hr
        have e1 : ∀ (b : Bool) (y : A Unit), (match b, (none : Option Operand) with | false, some _ => y | _, _ => A.ret () : A Unit) = A.ret () := fun b y => by cases b <;> rfl
        simp only [A.bind] at hr ⊢
        revert hr
        generalize hb : Nat.beq _ 1 = b
        cases b
        · intro hr
          simp only [A.bind] at hr ⊢
          exact told_get _ (fun r => told_ret _) L H r hr
        · intro hr
          simp only [A.bind] at hr ⊢
          exact told_get _ (fun r => told_ret _) L H r hr
      · exact told_fail
  case fieldAddr s x i =>
    simp only [opM]
    split
    · split
      · refine told_br _ told_fail ?_
        split
        · exact told_ret _
        · exact told_ret _
        · exact told_fail
      · exact told_fail
    · exact told_fail
  case field t x i =>
    simp only [opM]
    split
    · split
      · exact told_bind _ fun _ => told_ret _
      · exact told_fail
    · exact told_fail
  case indexAddr t x i =>
    simp only [opM]
    refine told_bind _ fun i => ?_
    split
    · exact told_br _ (told_get _ fun _ => told_ret _) told_fail
    · exact told_br _ (told_get _ fun _ => told_ret _) told_fail
    · exact told_br _ (told_get _ fun _ => told_ret _) told_fail
    · exact told_fail
  case index t x i =>
    simp only [opM]
    refine told_bind _ fun i => ?_
    split
    · exact told_br _ (told_get _ fun _ => told_bind _ fun _ => told_ret _) told_fail
    · exact told_fail
  case extract x i =>
    simp only [opM]
    split
    · exact told_bind _ fun _ => told_ret _
    · exact told_fail
  case alloc => split at hc <;> (try split at hc) <;> simp at hc
  case box => split at hc <;> (try split at hc) <;> simp at hc
  case call c =>
    obtain ⟨callee, args, argTypes⟩ := c
    cases callee with
    | value f => simp at hc
    | invoke => simp at hc
    | builtin b =>
      cases b <;> simp at hc
      · exact told_len _ _
      · exact told_max _ _
      · exact told_min _ _

/-- An operation that looks at memory. -/
theorem lv_rdB {H H' : AH} {b : Nat} (h : lv H' b = lv H b) : rdB H' b = rdB H b := by
  have e : ∀ H : AH, rdB H b = (lv H b).map (·.1) := fun H => by
    unfold rdB lv
    cases H[b]? with
    | none => rfl
    | some k => simp only [Option.bind_some]; cases k.st <;> rfl
  rw [e, e, h]
theorem lv_zOk {H H' : AH} {s : Sl} {z : Nat} (h : lv H' s.b = lv H s.b) : zOk H' s z = zOk H s z := by
  have e : ∀ H : AH, zOk H s z = if s.c = 0 ∧ s.x = true then some () else (lv H s.b).bind fun p => if p.2 = z then some () else none := fun H => by
    unfold zOk lv
    split
    · rfl
    · cases H[s.b]? with
      | none => rfl
      | some k => simp only [Option.bind_some]; cases k.st <;> rfl
  rw [e, e, h]

def sees (v : AV) (b : Nat) : Prop := (∃ o, v = .pv (.sc (.hp b o))) ∨ ∃ s : Sl, v = .pv (.sc (.sl s)) ∧ s.b = b

theorem opM_load (hc : clsOf cf o = .load) {L : LM} {H : AH} {x : Fx} (h : (opM P C cf fid o e L H).run = some x) : x.L = L ∧ x.H = H ∧
    ∀ L' H', (∀ t n, e (seenAt o) = .lp t n → L' t = L t) → (∀ b, sees (e (seenAt o)) b → lv H' b = lv H b) → (opM P C cf fid o e L' H').run = some ⟨x.v, L', H'⟩ := by
  obtain ⟨dst, op, type, pos, after, guard⟩ := o
  cases op <;> simp only [clsOf] at hc <;> try cases hc
  case load t a =>
    simp only [opM, A.run_bind, Option.bind_eq_some_iff, A.run, Option.some.injEq] at h
    obtain ⟨v, h1, rfl⟩ := h
    refine ⟨rfl, rfl, fun L' H' hl hh => ?_⟩
    have : loadM P t (e a) L' H' = loadM P t (e a) L H := by
      unfold loadM
      split
      · rename_i d o he
        rw [hl d o he]
      · rename_i b o he
        rw [lv_rdB (hh b (.inl ⟨o, he⟩))]
      · rfl
    simp only [opM, A.run_bind, this, h1, Option.bind_some, A.run]
  case slice t x lo hi mx =>
    cases lo with
    | none => simp at hc
    | some l =>
      simp only [opM] at h ⊢
      split at h
      · rename_i el hu
        obtain ⟨hb, h⟩ := br_run h
        simp only [A.run_bind, Option.bind_eq_some_iff] at h
        obtain ⟨s, h1, lo', h2, hi', h3, mx', h4, u, h5, h6⟩ := h
        simp only [A.run, Option.bind_eq_some_iff, Option.some.injEq] at h6
        obtain ⟨r, h6, rfl⟩ := h6
        refine ⟨rfl, rfl, fun L' H' hl hh => ?_⟩
        have hs := asSl_run h1
        have hz : zOk H' s (tsz P el) = zOk H s (tsz P el) := lv_zOk (hh s.b (.inr ⟨s, hs, rfl⟩))
        simp only [hu, hb, A.run, cond_true, A.run_bind, h1, h2, h3, h4, Option.bind_some, h6, hz, h5]
      · simp [A.run] at h
  case alloc => split at hc <;> (try split at hc) <;> simp at hc
  case box => split at hc <;> (try split at hc) <;> simp at hc
  case call c =>
    obtain ⟨callee, args, argTypes⟩ := c
    cases callee with
    | value f => simp at hc
    | invoke => simp at hc
    | builtin b => cases b <;> simp at hc

theorem allocM_local {d : Nat} {el : TypeId} {cs : List Sc} {L : LM} {H : AH} {x : Fx} (hd : cf.heap.contains d = false) (h : (allocM P cf (some d) fid el cs L H).run = some x) :
    L d = none ∧ x.H = H ∧ ∃ c, x.L = updL L d (some c) ∧ ∀ L' H', L' d = none → (allocM P cf (some d) fid el cs L' H').run = some ⟨x.v, updL L' d (some c), H'⟩ := by
  simp only [allocM, hd, Bool.false_eq_true, if_false] at h ⊢
  split at h
  · rename_i hn
    simp only [A.run, Option.some.injEq] at h; subst h
    exact ⟨hn, rfl, _, rfl, fun L' H' hn' => by rw [hn']; rfl⟩
  · simp [A.run] at h
theorem freshM_at {i z : Nat} {cs : List Sc} {H : AH} {r : Nat × AH} (h : (freshM H (some i) z cs).run = some r) :
    isRes H i = true ∧ r.1 = i ∧ r.2 = H.set i ⟨cs, .rw, z⟩ ∧ ∀ H', isRes H' i = true → (freshM H' (some i) z cs).run = some (i, H'.set i ⟨cs, .rw, z⟩) := by
  simp only [freshM, A.run, Option.bind_eq_some_iff, Option.some.injEq] at h
  obtain ⟨r', h1, rfl⟩ := h
  unfold newAt at h1
  split at h1
  · rename_i hc
    cases h1
    exact ⟨hc.1, rfl, rfl, fun H' h' => by simp only [freshM, A.run, newAt, h', true_and]; rw [if_pos hc.2]; rfl⟩
  · cases h1
theorem allocM_heap {d i : Nat} {el : TypeId} {cs : List Sc} {L : LM} {H : AH} {x : Fx} (hd : cf.heap.contains d = true) (h : (allocM P cf (some d) (some i) el cs L H).run = some x) :
    isRes H i = true ∧ x.L = L ∧ ∃ k, x.H = H.set i k ∧ ∀ L' H', isRes H' i = true → (allocM P cf (some d) (some i) el cs L' H').run = some ⟨x.v, L', H'.set i k⟩ := by
  simp only [allocM, hd, if_true, A.run_bind, Option.bind_eq_some_iff, A.run, Option.some.injEq] at h ⊢
  obtain ⟨r, h1, rfl⟩ := h
  obtain ⟨h2, h3, h4, h5⟩ := freshM_at h1
  exact ⟨h2, rfl, _, h4, fun L' H' h' => ⟨_, h5 H' h', by rw [h3]⟩⟩

theorem opM_alloc (hc : clsOf cf o = .alloc) : ∃ d, o.dst = some d ∧ Allocs d fun L H => (opM P C cf fid o e L H).run := by
  obtain ⟨dst, op, type, pos, after, guard⟩ := o
  have key : ∀ (t : TypeId) (a : A (List Sc)), (match dst with | some d => if cf.heap.contains d then Cls.fresh else .alloc | none => .act) = .alloc →
      ∃ d, dst = some d ∧ Allocs d fun L H => (a.bind fun cs => allocM P cf dst fid t cs L H).run := fun t a hc => by
    cases dst with
    | none => cases hc
    | some d =>
      refine ⟨d, rfl, fun L H x h => ?_⟩
      have hd : cf.heap.contains d = false := by
        cases hh : cf.heap.contains d with
        | false => rfl
        | true => simp only [hh, if_true] at hc; cases hc
      simp only [A.run_bind, Option.bind_eq_some_iff] at h
      obtain ⟨cs, h1, h2⟩ := h
      obtain ⟨h3, h4, c, h5, h6⟩ := allocM_local hd h2
      exact ⟨h3, h4, c, h5, fun L' H' hn => by simp only [A.run_bind, h1, Option.bind_some]; exact h6 L' H' hn⟩
  cases op <;> simp only [clsOf] at hc <;> try cases hc
  case alloc t => exact key t _ hc
  case box t x => exact key t _ hc
  case slice t x lo hi mx => cases lo <;> simp at hc
  case call c =>
    obtain ⟨callee, args, argTypes⟩ := c
    cases callee with
    | value f => simp at hc
    | invoke => simp at hc
    | builtin b => cases b <;> simp at hc

theorem opM_fresh {p : Nat} (hc : clsOf cf o = .fresh) : Freshes p fun L H => (opM P C cf (some p) o e L H).run := by
  obtain ⟨dst, op, type, pos, after, guard⟩ := o
  have key : ∀ (t : TypeId) (a : A (List Sc)), (match dst with | some d => if cf.heap.contains d then Cls.fresh else .alloc | none => .act) = .fresh →
      Freshes p fun L H => (a.bind fun cs => allocM P cf dst (some p) t cs L H).run := fun t a hc => by
    cases dst with
    | none => cases hc
    | some d =>
      intro L H x h
      have hd : cf.heap.contains d = true := by
        cases hh : cf.heap.contains d with
        | true => rfl
        | false => simp only [hh, Bool.false_eq_true, if_false] at hc; cases hc
      simp only [A.run_bind, Option.bind_eq_some_iff] at h
      obtain ⟨cs, h1, h2⟩ := h
      obtain ⟨h3, h4, c, h5, h6⟩ := allocM_heap hd h2
      exact ⟨h3, h4, c, h5, fun L' H' hn => by simp only [A.run_bind, h1, Option.bind_some]; exact h6 L' H' hn⟩
  cases op <;> simp only [clsOf] at hc <;> try cases hc
  case alloc t => exact key t _ hc
  case box t x => exact key t _ hc
  case buildSlice t len parts =>
    intro L H x h
    simp only [opM] at h ⊢
    split at h
    · rename_i el hu
      simp only [A.run_bind, Option.bind_eq_some_iff] at h
      obtain ⟨zr, h1, ps, h2, cs, h4, h⟩ := h
      obtain ⟨hb, h⟩ := br_run h
      simp only [A.run_bind, Option.bind_eq_some_iff, A.run, Option.some.injEq] at h
      obtain ⟨r, h5, rfl⟩ := h
      obtain ⟨h6, h7, h8, h9⟩ := freshM_at h5
      refine ⟨h6, rfl, _, h8, fun L' H' h' => ?_⟩
      simp only [hu, A.run_bind, h1, h2, h4, Option.bind_some, A.run, hb, cond_true, h9 H' h', h7]
    · simp [A.run] at h
  case makeSlice t l c =>
    intro L H x h
    simp only [opM] at h ⊢
    split at h
    · rename_i el hu
      simp only [A.run_bind, Option.bind_eq_some_iff, A.run, Option.some.injEq] at h
      obtain ⟨n, h1, m, h2, zr, h3, r, h4, rfl⟩ := h
      unfold mkAt at h4
      split at h4
      · rename_i hcnd
        cases h4
        refine ⟨hcnd.1, rfl, _, rfl, fun L' H' h' => ?_⟩
        have hcnd' := hcnd
        rw [← h'.trans hcnd.1.symm] at hcnd'
        simp only [hu, A.run_bind, h1, h2, h3, Option.bind_some, A.run, mkAt]
        rw [if_pos ⟨h', hcnd.2⟩]; rfl
      · cases h4
    · simp [A.run] at h
  case slice t x lo hi mx => cases lo <;> simp at hc
  case call c =>
    obtain ⟨callee, args, argTypes⟩ := c
    cases callee with
    | value f => simp at hc
    | invoke => simp at hc
    | builtin b => cases b <;> simp at hc

/-- What a call does hangs on the heap alone. -/
def Heapy (x : LM → AH → A Fx) : Prop := ∀ L H r, (x L H).run = some r → r.L = L ∧ ∀ L', (x L' H).run = some ⟨r.v, L', r.H⟩
theorem heapy_fail : Heapy fun _ _ => .fail := fun L H r h => by simp [A.run] at h
theorem heapy_told {x : LM → AH → A Fx} (h : Told x) : Heapy x := fun L H r hr => by
  obtain ⟨e1, e2, f⟩ := h L H r hr
  exact ⟨e1, fun L' => by rw [f, e2]⟩
theorem heapy_ret (f : AH → AV × AH) : Heapy fun L H => .ret ⟨(f H).1, L, (f H).2⟩ := fun L H r h => by
  simp only [A.run, Option.some.injEq] at h; subst h; exact ⟨rfl, fun _ => rfl⟩
theorem heapy_bind {α : Type} (a : AH → A α) {k : α → LM → AH → A Fx} (h : ∀ x, Heapy (k x)) : Heapy fun L H => (a H).bind fun x => k x L H := fun L H r hr => by
  simp only [A.run_bind, Option.bind_eq_some_iff] at hr
  obtain ⟨x, h1, h2⟩ := hr
  obtain ⟨e1, f⟩ := h x L H r h2
  exact ⟨e1, fun L' => by simp only [A.run_bind, h1, Option.bind_some]; exact f L'⟩
theorem heapy_get {α : Type} (a : AH → Option α) {k : α → LM → AH → A Fx} (h : ∀ x, Heapy (k x)) : Heapy fun L H => .get α (a H) fun x => k x L H := fun L H r hr => by
  simp only [A.run, Option.bind_eq_some_iff] at hr
  obtain ⟨x, h1, h2⟩ := hr
  obtain ⟨e1, f⟩ := h x L H r h2
  exact ⟨e1, fun L' => by simp only [A.run, h1, Option.bind_some]; exact f L'⟩
theorem heapy_const {f : AV} {g : AH} : Heapy fun L _ => .ret ⟨f, L, g⟩ := fun L H r h => by
  simp only [A.run, Option.some.injEq] at h; subst h; exact ⟨rfl, fun _ => rfl⟩

theorem heapy_builtin (b : Builtin) (ts : List TypeId) (xs : List AV) : Heapy fun L H => builtinM P b ts xs L H := by
  unfold builtinM
  split
  · split
    · exact heapy_told (told_ret _)
    · exact heapy_told (told_ret _)
    · exact heapy_told (told_ret _)
    · exact heapy_fail
  · refine heapy_bind _ fun s => ?_
    split
    · refine heapy_bind _ fun _ => ?_
      refine heapy_bind (fun H => srcM P H _ _ _) fun r => ?_
      exact heapy_get _ fun _ => heapy_const
    · exact heapy_fail
  · refine heapy_bind _ fun s => heapy_bind _ fun s => ?_
    split
    · exact heapy_get _ fun _ => heapy_const
    · exact heapy_fail
  · refine heapy_bind _ fun s => ?_
    split
    · exact heapy_bind _ fun _ => heapy_get _ fun _ => heapy_const
    · exact heapy_fail
  · exact heapy_told (told_bind _ fun _ => told_ret _)
  · exact heapy_told (told_bind _ fun _ => told_ret _)
  · exact heapy_fail

theorem opM_act (hc : clsOf cf o = .act) : Heapy fun L H => opM P C cf fid o e L H := by
  obtain ⟨dst, op, type, pos, after, guard⟩ := o
  have key : ∀ (t : TypeId) (a : A (List Sc)), (match dst with | some d => if cf.heap.contains d then Cls.fresh else .alloc | none => .act) = .act →
      Heapy fun L H => a.bind fun cs => allocM P cf dst fid t cs L H := fun t a hc => by
    cases dst with
    | none => exact heapy_bind _ fun _ => heapy_fail
    | some d => simp only at hc; split at hc <;> cases hc
  cases op <;> simp only [clsOf] at hc <;> first | (cases hc; done) | exact heapy_fail | skip
  case alloc t => exact key t _ hc
  case box t x => exact key t _ hc
  case slice t x lo hi mx => cases lo <;> simp at hc
  case call c =>
    obtain ⟨callee, args, argTypes⟩ := c
    cases callee with
    | builtin b => exact heapy_builtin _ _ _
    | invoke => exact heapy_fail
    | value f =>
      simp only [opM]
      split
      · exact heapy_bind _ fun xs => heapy_get _ fun r => heapy_bind _ fun v => heapy_const
      · exact heapy_fail
end
end Go.Abs
/- The steps of a drawn region, two of which may change places. -/
namespace Go.Abs
set_option linter.unusedVariables false
set_option linter.unusedSimpArgs false

section
variable {P : Program} {C : Oracle} {cf : Cfg}

theorem partsM_congr {e e' : Operand → AV} : ∀ {l : List (Nat × Operand)}, (∀ x ∈ l, e x.2 = e' x.2) → partsM e l = partsM e' l
  | [], _ => rfl
  | (i, x) :: l, h => by
    simp only [partsM]
    rw [h (i, x) List.mem_cons_self, partsM_congr fun y hy => h y (List.mem_cons_of_mem _ hy)]
theorem optI_congr {e e' : Operand → AV} {o : Option Operand} (h : ∀ x, o = some x → e x = e' x) : optI e o = optI e' o := by
  cases o with
  | none => rfl
  | some x => simp only [optI]; rw [h x rfl]

theorem opM_congr {fid : Option Nat} {o : Oper} {e e' : Operand → AV} {L : LM} {H : AH} (h : ∀ x ∈ o.op.operands.toList, e x = e' x) : opM P C cf fid o e L H = opM P C cf fid o e' L H := by
  obtain ⟨dst, op, type, pos, after, guard⟩ := o
  cases op
  case build t parts => 
    simp only [opM]
    rw [partsM_congr (e := e) (e' := e') fun x hx => h x.2 (by simp [Op.operands]; exact ⟨x.1, by simpa using hx⟩)]
  case buildSlice t n parts => 
    simp only [opM]
    rw [partsM_congr (e := e) (e' := e') fun x hx => h x.2 (by simp [Op.operands]; exact ⟨x.1, by simpa using hx⟩)]
  case slice t x lo hi mx =>
    simp only [opM]
    rw [h x (by simp [Op.operands]), optI_congr (e := e) (e' := e') (o := lo) fun y hy => h y (by simp [Op.operands, hy]), optI_congr (e := e) (e' := e') (o := hi) fun y hy => h y (by simp [Op.operands, hy]),
      optI_congr (e := e) (e' := e') (o := mx) fun y hy => h y (by simp [Op.operands, hy])]
  case call c =>
    obtain ⟨callee, args, argTypes⟩ := c
    have ha : args.toList.map e = args.toList.map e' := List.map_congr_left fun x hx => h x (by
      simp only [Op.operands, Call.operands, Array.toList_append, List.mem_append]; exact .inr hx)
    cases callee with
    | builtin b => simp only [opM]; rw [ha]
    | value f => simp only [opM]; rw [ha, h f (by simp [Op.operands, Call.operands])]
    | invoke => rfl
  all_goals (simp [Op.operands] at h; simp only [opM, h])

def wantV (ops : List Oper) (cf : Cfg) (o : Oper) (e : Env) : Option Bool :=
  match o.guard with
  | none => some true
  | some (j, want) => match (ops[j]?).bind (·.dst) with
    | none => none
    | some d => if Nat.ble (d + 1) cf.nt then (match e d with
      | .tup [] => some false
      | .pv (.sc (.bool b)) => some (if b then want else !want)
      | _ => none) else none

theorem updE_same {e : Env} {d : Nat} {v : AV} (h : e d = v) : updE e d v = e := by
  funext t
  by_cases ht : t = d
  · subst ht; rw [updE_self, h]
  · rw [updE_ne ht]

theorem wantM_run (ops : List Oper) (o : Oper) (s : St) : (wantM ops cf o s).run = (wantV ops cf o s.env).map fun b => (b, s) := by
  unfold wantM wantV
  cases o.guard with
  | none => rfl
  | some g =>
    obtain ⟨j, want⟩ := g
    simp only
    cases (ops[j]?).bind (·.dst) with
    | none => rfl
    | some d =>
      simp only [A.run]
      cases Nat.ble (d + 1) cf.nt with
      | false => rfl
      | true =>
        simp only [cond_true, if_true]
        split
        · rename_i he; rw [he]; rfl
        · rename_i v hv
          simp only [A.run_bind]
          cases hb : (asB (s.env d)).run with
          | none =>
            have hn : ∀ b, s.env d ≠ .pv (.sc (.bool b)) := fun b e => by rw [e] at hb; simp [asB, A.run] at hb
            simp only [Option.bind_none]
            generalize hv' : s.env d = v at hv hn
            cases v with
            | pv p => cases p with
              | sc c => cases c with
                | bool b => exact absurd rfl (hn b)
                | _ => rfl
              | agg => rfl
            | tup l => cases l with
              | nil => exact absurd rfl hv
              | cons => rfl
            | _ => rfl
          | some b =>
            have he := asB_run hb
            rw [he]
            simp only [Option.bind_some, A.run, Option.map_some]
            cases b
            · simp only [cond_false, Bool.false_eq_true, if_false]; rw [updE_same he]
            · simp only [cond_true, if_true]; rw [updE_same he]

def putO (cf : Cfg) (e : Env) (dst : Option Tmp) (x : Fx) : Option St :=
  match dst with
  | none => some ⟨e, x.L, x.H⟩
  | some d => if Nat.ble (d + 1) cf.nt then some ⟨updE e d x.v, x.L, x.H⟩ else none
theorem putM_run (s : St) (dst : Option Tmp) (x : Fx) : (putM cf s dst x).run = putO cf s.env dst x := by
  cases dst with
  | none => rfl
  | some d =>
    simp only [putM, putO, A.run]
    cases Nat.ble (d + 1) cf.nt <;> rfl

variable {ops : List Oper} {ext : List Nat} {base : Nat}

/-- What an operation of a drawn region does, guard and all. -/
def effD (P : Program) (C : Oracle) (cf : Cfg) (ops : List Oper) (ext : List Nat) (base : Nat) (io : Oper × Nat) (e : Env) : Eff := fun L H =>
  (wantV ops cf io.1 e).bind fun b => match b with
    | true => (drawM P C cf ops base (mskOf cf ops ext io.2) io.2 io.1 (evO e) L H).run
    | false => some ⟨.tup [], L, H⟩

theorem stepD_run (io : Oper × Nat) (s : St) : (stepD P C cf ops ext base io s).run = (effD P C cf ops ext base io s.env s.L s.H).bind (putO cf s.env io.1.dst) := by
  unfold stepD effD
  simp only [A.run_bind, wantM_run]
  cases wantV ops cf io.1 s.env with
  | none => rfl
  | some b =>
    simp only [Option.map_some, Option.bind_some]
    cases b with
    | true =>
      simp only [A.run_bind]
      congr 1
      funext x
      exact putM_run ..
    | false => exact putM_run ..

theorem evO_congr {e e' : Env} {o : Oper} (h : ∀ t ∈ (o.op.operands.toList.filterMap fun | .tmp t => some t | _ => none), e t = e' t) : ∀ x ∈ o.op.operands.toList, evO e x = evO e' x := fun x hx => by
  cases x with
  | tmp t => exact h t (List.mem_filterMap.2 ⟨_, hx, rfl⟩)
  | _ => rfl

theorem seenAt_mem {o : Oper} (hc : clsOf cf o = .load) : seenAt o ∈ o.op.operands.toList := by
  obtain ⟨dst, op, type, pos, after, guard⟩ := o
  cases op <;> simp only [clsOf] at hc <;> try cases hc
  case load => simp [seenAt, Op.operands]
  case slice t x lo hi mx => simp [seenAt, Op.operands]
  case alloc => split at hc <;> (try split at hc) <;> simp at hc
  case box => split at hc <;> (try split at hc) <;> simp at hc
  case call c =>
    obtain ⟨callee, args, argTypes⟩ := c
    cases callee with
    | value f => simp at hc
    | invoke => simp at hc
    | builtin b => cases b <;> simp at hc

theorem drawM_congr {m : Msk} {i : Nat} {o : Oper} {e e' : Operand → AV} {L : LM} {H : AH} (h : ∀ x ∈ o.op.operands.toList, e x = e' x) : drawM P C cf ops base m i o e L H = drawM P C cf ops base m i o e' L H := by
  unfold drawM
  split
  · rename_i hc
    rw [h _ (seenAt_mem hc), opM_congr h]
  · rw [opM_congr h]
  · rw [opM_congr h]
  · rw [opM_congr h]

theorem effD_congr {io : Oper × Nat} {e e' : Env} (h : ∀ t ∈ io.1.looksAt ops.toArray, e t = e' t) : effD P C cf ops ext base io e = effD P C cf ops ext base io e' := by
  funext L H
  unfold effD
  have h1 : wantV ops cf io.1 e = wantV ops cf io.1 e' := by
    unfold wantV
    cases hg : io.1.guard with
    | none => rfl
    | some g =>
      obtain ⟨j, want⟩ := g
      simp only
      cases hd : (ops[j]?).bind (·.dst) with
      | none => rfl
      | some d =>
        simp only
        rw [h d (by simp only [Oper.looksAt, hg, List.mem_append, List.getElem?_toArray, hd]; exact .inr (by simp))]
  rw [h1, drawM_congr (evO_congr fun t ht => h t (by simp only [Oper.looksAt, List.mem_append]; exact .inl ht))]

/-- Two that look past each other may change places. -/
theorem stepD_comm {a b : Oper × Nat} {s s1 s2 : St} (hap : a.1.apart ops.toArray b.1 = true) (hc : ∀ e e', Comm (effD P C cf ops ext base a e) (effD P C cf ops ext base b e'))
    (h1 : (stepD P C cf ops ext base a s).run = some s1) (h2 : (stepD P C cf ops ext base b s1).run = some s2) : ∃ s3, (stepD P C cf ops ext base b s).run = some s3 ∧ (stepD P C cf ops ext base a s3).run = some s2 := by
  obtain ⟨k1, k2, k3⟩ := Oper.apart_spec hap
  rw [stepD_run] at h1 h2
  simp only [Option.bind_eq_some_iff] at h1 h2
  obtain ⟨x, hx, p1⟩ := h1
  obtain ⟨y, hy, p2⟩ := h2
  have s1L : s1.L = x.L ∧ s1.H = x.H ∧ ∀ t, (∀ d, a.1.dst = some d → t ≠ d) → s1.env t = s.env t := by
    unfold putO at p1
    split at p1
    · cases p1; exact ⟨rfl, rfl, fun _ _ => rfl⟩
    · rename_i d hd
      split at p1
      · cases p1; exact ⟨rfl, rfl, fun t ht => updE_ne (ht d hd)⟩
      · cases p1
  rw [s1L.1, s1L.2.1, effD_congr (e' := s.env) fun t ht => s1L.2.2 t fun d hd e => k1 d hd (e ▸ ht)] at hy
  obtain ⟨L', H', g1, g2⟩ := hc s.env s.env s.L s.H x y hx hy
  -- the destinations
  have q : ∃ s3, putO cf s.env b.1.dst ⟨y.v, L', H'⟩ = some s3 ∧ s3.L = L' ∧ s3.H = H' ∧ (∀ t, (∀ d, b.1.dst = some d → t ≠ d) → s3.env t = s.env t) ∧ putO cf s3.env a.1.dst ⟨x.v, y.L, y.H⟩ = some s2 := by
    unfold putO at p1 p2 ⊢
    cases hb : b.1.dst with
    | none =>
      rw [hb] at p2
      simp only [Option.some.injEq] at p2
      subst p2
      refine ⟨_, rfl, rfl, rfl, fun _ _ => rfl, ?_⟩
      cases ha : a.1.dst with
      | none => rw [ha] at p1; simp only [Option.some.injEq] at p1; subst p1; rfl
      | some d =>
        rw [ha] at p1
        simp only at p1 ⊢
        split at p1
        · cases p1; rename_i hd; rw [if_pos hd]
        · cases p1
    | some d' =>
      rw [hb] at p2
      simp only at p2 ⊢
      split at p2
      · rename_i hd'
        cases p2
        refine ⟨_, if_pos hd', rfl, rfl, fun t ht => updE_ne (ht d' rfl), ?_⟩
        cases ha : a.1.dst with
        | none => rw [ha] at p1; simp only [Option.some.injEq] at p1; subst p1; rfl
        | some d =>
          rw [ha] at p1
          simp only at p1 ⊢
          split at p1
          · rename_i hd
            cases p1
            rw [if_pos hd]
            have hne : d ≠ d' := fun e => k2 d ha (by rw [hb, e])
            congr 2
            funext t
            by_cases e : t = d
            · subst e; simp only [updE_self, updE_ne hne]
            · by_cases e' : t = d'
              · subst e'; simp only [updE_self, updE_ne e]
              · simp only [updE_ne e, updE_ne e']
          · cases p1
      · cases p2
  obtain ⟨s3, q1, q2, q3, q4, q5⟩ := q
  refine ⟨s3, ?_, ?_⟩
  · rw [stepD_run, g1]; exact q1
  · rw [stepD_run, effD_congr (e' := s.env) fun t ht => q4 t fun d hd e => k3 d hd (e ▸ ht), q2, q3, g2]
    exact q5
end
end Go.Abs
/- A region that draws its order: which pairs may change places, and what one step does. -/
namespace Go.Abs
set_option linter.unusedVariables false
set_option linter.unusedSimpArgs false

section
variable {P : Program} {C : Oracle} {cf : Cfg} {base : Nat} {m : Msk} {i : Nat} {o : Oper} {e : Operand → AV} {ops : List Oper}

theorem killAll_take (l : List Nat) (H : AH) (base : Nat) : (killAll H base l).take base = H.take base := by
  refine List.ext_getElem? fun b => ?_
  simp only [List.getElem?_take]
  split
  · rename_i hb
    exact killAll_out _ _ _ _ fun ⟨r, _, e⟩ => by omega
  · rfl

theorem dr_free (hc : clsOf cf o = .pure) : Free fun L H => (drawM P C cf ops base m i o e L H).run := by
  intro L H x h
  have h1 : ∀ L H, drawM P C cf ops base m i o e L H = opM P C cf none o e L H := fun L H => by simp only [drawM, hc]
  simp only [h1] at h ⊢
  exact opM_free hc L H x h
theorem dr_alloc (hc : clsOf cf o = .alloc) : ∃ d, o.dst = some d ∧ Allocs d fun L H => (drawM P C cf ops base m i o e L H).run := by
  have h1 : ∀ L H, drawM P C cf ops base m i o e L H = opM P C cf none o e L H := fun L H => by simp only [drawM, hc]
  simp only [h1]
  exact opM_alloc hc
theorem dr_fresh (hc : clsOf cf o = .fresh) : Freshes (base + freshNo cf ops i) fun L H => (drawM P C cf ops base m i o e L H).run := by
  have h1 : ∀ L H, drawM P C cf ops base m i o e L H = opM P C cf (some (base + freshNo cf ops i)) o e L H := fun L H => by simp only [drawM, hc]
  simp only [h1]
  exact opM_fresh hc

/-- What a load of a drawn region is asked for first. -/
def seeOk (base : Nat) (m : Msk) (v : AV) : A Unit :=
  match v with
  | .pv (.sc (.hp b _)) => A.br m.au A.fail (A.br (!m.ag || decide (b < base)) (A.ret ()) A.fail)
  | .pv (.sc (.sl s)) => A.br m.au A.fail (A.br (!m.ag || decide (s.b < base)) (A.ret ()) A.fail)
  | _ => A.ret ()
theorem seeOk_run {v : AV} (h : (seeOk base m v).run = some ()) {b : Nat} (hb : sees v b) : m.au = false ∧ (m.ag = true → b < base) := by
  rcases hb with ⟨o, rfl⟩ | ⟨s, rfl, rfl⟩
  all_goals
    simp only [seeOk] at h
    obtain ⟨h1, h2⟩ := br_run' h
    obtain ⟨h3, _⟩ := br_run h2
    refine ⟨h1, fun h => ?_⟩
    rw [h] at h3
    simpa using h3
theorem drawM_load (hc : clsOf cf o = .load) (L : LM) (H : AH) : drawM P C cf ops base m i o e L H = (seeOk base m (e (seenAt o))).bind fun _ => (opM P C cf none o e (maskL L m.lu) (killAll H base m.hu)).bind fun x => .ret ⟨x.v, L, H⟩ := by
  simp only [drawM, hc]
  congr 1

theorem dr_load (hc : clsOf cf o = .load) : Loads m.lu m.hu base m.au m.ag fun L H => (drawM P C cf ops base m i o e L H).run := by
  intro L H x h
  simp only [drawM_load hc, A.run_bind, Option.bind_eq_some_iff, A.run, Option.some.injEq] at h
  obtain ⟨u, h1, x', h2, rfl⟩ := h
  refine ⟨rfl, rfl, fun L' H' hl hh => ?_⟩
  obtain ⟨_, _, f⟩ := opM_load hc h2
  have := f (maskL L' m.lu) (killAll H' base m.hu) (fun t n _ => by rw [hl]) (fun b hb => by
    obtain ⟨g1, g2⟩ := seeOk_run h1 hb
    exact hh g1 b g2)
  simp only [drawM_load hc, A.run_bind, h1, Option.bind_some, this, A.run]

theorem dr_act (hc : clsOf cf o = .act) : Acts m.hu base m.hold fun L H => (drawM P C cf ops base m i o e L H).run := by
  intro L H x h
  have h0 : ∀ L H, drawM P C cf ops base m i o e L H = (opM P C cf none o e L (killAll H base m.hu)).bind fun x =>
      (A.br (!m.hold || decide (x.H.take base = H.take base)) (.ret ()) .fail).bind fun _ =>
        (A.br (m.hu.isEmpty || decide (x.H.length ≥ H.length)) (.ret ()) .fail).bind fun _ => .ret ⟨x.v, L, restAll H x.H base m.hu⟩ := fun L H => by simp only [drawM, hc]
  simp only [h0] at h ⊢
  clear h0
  rw [A.run_bind, Option.bind_eq_some_iff] at h
  obtain ⟨X, h1, h⟩ := h
  rw [A.run_bind, Option.bind_eq_some_iff] at h
  obtain ⟨_, h2, h⟩ := h
  obtain ⟨h2, _⟩ := br_run h2
  rw [A.run_bind, Option.bind_eq_some_iff] at h
  obtain ⟨_, h3, h⟩ := h
  obtain ⟨h3, _⟩ := br_run h3
  simp only [A.run, Option.some.injEq] at h
  subst h
  obtain ⟨e1, f⟩ := opM_act hc L (killAll H base m.hu) X h1
  refine ⟨rfl, X.H, rfl, fun hh => ?_, fun hne => ?_, fun L' H' hk => ?_⟩
  · rw [hh] at h2; simpa using h2
  · have : m.hu.isEmpty = false := by
      cases hm : m.hu with
      | nil => exact absurd hm hne
      | cons => rfl
    rw [this] at h3; simpa using h3
  · have hl : H'.length = H.length := by rw [← killAll_length m.hu H' base, hk, killAll_length]
    have ht : H'.take base = H.take base := by rw [← killAll_take m.hu H' base, hk, killAll_take]
    have h2' : (!m.hold || decide (X.H.take base = H'.take base)) = true := by rw [ht]; exact h2
    have h3' : (m.hu.isEmpty || decide (X.H.length ≥ H'.length)) = true := by rw [hl]; exact h3
    rw [A.run_bind, hk, f L', Option.bind_some]
    simp only [A.run_bind, h2', h3', A.run, cond_true, Option.bind_some]

variable {ext : List Nat} {an : List Nat}

theorem effD_cases {io : Oper × Nat} {ev : Env} : Free (effD P C cf ops ext base io ev) ∨ effD P C cf ops ext base io ev = fun L H => (drawM P C cf ops base (mskOf cf ops ext io.2) io.2 io.1 (evO ev) L H).run := by
  cases h : wantV ops cf io.1 ev with
  | none => exact .inl fun L H x hx => by simp [effD, h] at hx
  | some b =>
    cases b with
    | false =>
      refine .inl fun L H x hx => ?_
      simp only [effD, h, Option.bind_some, Option.some.injEq] at hx
      subst hx
      exact ⟨rfl, rfl, fun L' H' => by simp [effD, h]⟩
    | true => exact .inr (by funext L H; simp [effD, h])

theorem msk_lu {j d : Nat} {q : Oper} (hq : ops[j]? = some q) (hu : unord (ancs ops []) i j = true) (hc : clsOf cf q = .alloc) (hd : q.dst = some d) : d ∈ (mskOf cf ops ext i).lu := by
  simp only [mskOf, List.mem_filterMap]
  exact ⟨(q, j), List.mem_zipIdx_iff_getElem?.2 hq, by simp [hu, hc, hd]⟩
theorem msk_hu {j : Nat} {q : Oper} (hq : ops[j]? = some q) (hu : unord (ancs ops []) i j = true) (hc : clsOf cf q = .fresh) : inS base (mskOf cf ops ext i).hu (base + freshNo cf ops j) := by
  refine ⟨freshNo cf ops j, ?_, rfl⟩
  simp only [mskOf, List.mem_filterMap]
  exact ⟨(q, j), List.mem_zipIdx_iff_getElem?.2 hq, by simp [hu, hc]⟩
theorem msk_act {j : Nat} {q : Oper} (hq : ops[j]? = some q) (hu : unord (ancs ops []) i j = true) (hc : clsOf cf q = .act) : (mskOf cf ops ext i).au = false → (mskOf cf ops ext i).ag = true ∧ (mskOf cf ops ext j).hold = true := by
  intro h
  simp only [mskOf] at h ⊢
  by_cases he : j ∈ ext
  · exact ⟨List.any_eq_true.2 ⟨(q, j), List.mem_zipIdx_iff_getElem?.2 hq, by simp [hu, hc, he]⟩, List.contains_iff_mem.2 he⟩
  · have : (ops.zipIdx.any fun (x : Oper × Nat) => unord (ancs ops []) i x.2 && clsOf cf x.1 == .act && !ext.contains x.2) = true := List.any_eq_true.2 ⟨(q, j), List.mem_zipIdx_iff_getElem?.2 hq, by simp [hu, hc, he]⟩
    rw [this] at h; cases h

theorem freshNo_lt {j : Nat} {q : Oper} (hij : i < j) (ho : ops[i]? = some o) (hc : clsOf cf o = .fresh) : freshNo cf ops i < freshNo cf ops j := by
  have hs : ops.take j = ops.take i ++ (o :: (ops.drop (i + 1)).take (j - i - 1)) := by
    have h1 : ops.take j = ops.take i ++ (ops.drop i).take (j - i) := by
      have := List.take_add (l := ops) (i := i) (j := j - i)
      rw [← this]; congr 1; omega
    have hi := (List.getElem?_eq_some_iff.1 ho)
    have h2 : ops.drop i = o :: ops.drop (i + 1) := by
      rw [List.drop_eq_getElem_cons hi.1, hi.2]
    rw [h1, h2]
    have : j - i = (j - i - 1) + 1 := by omega
    rw [this, List.take_succ_cons]
    simp
  unfold freshNo
  rw [hs, List.filter_append, List.length_append, List.filter_cons]
  simp [hc]

theorem unord_symm {i j : Nat} (h : unord an i j = true) : unord an j i = true := by
  simp only [unord, Bool.and_eq_true, Bool.not_eq_true'] at h ⊢
  refine ⟨⟨?_, h.2⟩, h.1.2⟩
  have := h.1.1
  exact beq_ne fun e => by rw [e] at this; simp at this

/-- Two operations in open order may change places. -/
theorem pair_comm {i j : Nat} {o q : Oper} (ho : ops[i]? = some o) (hq : ops[j]? = some q) (hij : j < i) (hu : unord (ancs ops []) i j = true) (hap : q.apart ops.toArray o = true) (hf : fits (clsOf cf q) (clsOf cf o) = true) (ev ev' : Env) :
    Comm (effD P C cf ops ext base (q, j) ev) (effD P C cf ops ext base (o, i) ev') := by
  rcases effD_cases (P := P) (C := C) (cf := cf) (ops := ops) (ext := ext) (base := base) (io := (q, j)) (ev := ev) with h1 | h1
  · exact comm_free_l h1
  rcases effD_cases (P := P) (C := C) (cf := cf) (ops := ops) (ext := ext) (base := base) (io := (o, i)) (ev := ev') with h2 | h2
  · exact comm_free_r h2
  rw [h1, h2]
  have hu' := unord_symm hu
  cases hcq : clsOf cf q with
  | pure => exact comm_free_l (dr_free hcq)
  | load =>
    cases hco : clsOf cf o with
    | pure => exact comm_free_r (dr_free hco)
    | load => exact comm_loads (dr_load hcq) (dr_load hco)
    | alloc =>
      obtain ⟨d, hd, ha⟩ := dr_alloc (P := P) (C := C) (base := base) (m := mskOf cf ops ext i) (i := i) (e := evO ev') (ops := ops) hco
      exact comm_load_alloc (dr_load hcq) ha (msk_lu ho hu' hco hd)
    | fresh => exact comm_load_fresh (dr_load hcq) (dr_fresh hco) (msk_hu ho hu' hco)
    | act => exact comm_load_act (dr_load hcq) (dr_act hco) (msk_act ho hu' hco)
    | store => rw [hcq, hco] at hf; cases hf
  | alloc =>
    obtain ⟨d, hd, ha⟩ := dr_alloc (P := P) (C := C) (base := base) (m := mskOf cf ops ext j) (i := j) (e := evO ev) (ops := ops) hcq
    cases hco : clsOf cf o with
    | pure => exact comm_free_r (dr_free hco)
    | load => exact comm_alloc_load ha (dr_load hco) (msk_lu hq hu hcq hd)
    | alloc =>
      obtain ⟨d', hd', ha'⟩ := dr_alloc (P := P) (C := C) (base := base) (m := mskOf cf ops ext i) (i := i) (e := evO ev') (ops := ops) hco
      exact comm_allocs ha ha' fun e => (Oper.apart_spec hap).2.1 d hd (by rw [hd', e])
    | fresh => exact comm_alloc_fresh ha (dr_fresh hco)
    | act => exact comm_alloc_act ha (dr_act hco)
    | store => rw [hcq, hco] at hf; cases hf
  | fresh =>
    cases hco : clsOf cf o with
    | pure => exact comm_free_r (dr_free hco)
    | load => exact comm_fresh_load (dr_fresh hcq) (dr_load hco) (msk_hu hq hu hcq)
    | alloc =>
      obtain ⟨d', hd', ha'⟩ := dr_alloc (P := P) (C := C) (base := base) (m := mskOf cf ops ext i) (i := i) (e := evO ev') (ops := ops) hco
      exact comm_fresh_alloc (dr_fresh hcq) ha'
    | fresh => exact comm_freshes (dr_fresh hcq) (dr_fresh hco) (show base + freshNo cf ops j ≠ base + freshNo cf ops i by have := freshNo_lt (q := o) hij hq hcq; omega)
    | act => exact comm_fresh_act (dr_fresh hcq) (dr_act hco) (msk_hu hq hu hcq)
    | store => rw [hcq, hco] at hf; cases hf
  | act =>
    cases hco : clsOf cf o with
    | pure => exact comm_free_r (dr_free hco)
    | load => exact comm_act_load (dr_act hcq) (dr_load hco) (msk_act hq hu hcq)
    | alloc =>
      obtain ⟨d', hd', ha'⟩ := dr_alloc (P := P) (C := C) (base := base) (m := mskOf cf ops ext i) (i := i) (e := evO ev') (ops := ops) hco
      exact comm_act_alloc (dr_act hcq) ha'
    | fresh => exact comm_act_fresh (dr_act hcq) (dr_fresh hco) (msk_hu ho hu' hco)
    | act => rw [hcq, hco] at hf; cases hf
    | store => rw [hcq, hco] at hf; cases hf
  | store =>
    cases hco : clsOf cf o with
    | pure => exact comm_free_r (dr_free hco)
    | _ => rw [hcq, hco] at hf; cases hf

theorem bubble {x : Oper × Nat} {l2 : List (Oper × Nat)} : ∀ {l1 : List (Oper × Nat)} {s s' : St}, (foldA (stepD P C cf ops ext base) (l1 ++ x :: l2) s).run = some s' →
    (∀ y ∈ l1, y.1.apart ops.toArray x.1 = true ∧ ∀ e e', Comm (effD P C cf ops ext base y e) (effD P C cf ops ext base x e')) → ∃ s1, (stepD P C cf ops ext base x s).run = some s1 ∧ (foldA (stepD P C cf ops ext base) (l1 ++ l2) s1).run = some s'
  | [], s, s', h, _ => by
    simp only [List.nil_append, foldA, A.run_bind, Option.bind_eq_some_iff] at h
    exact h
  | y :: l1, s, s', h, hc => by
    simp only [List.cons_append, foldA, A.run_bind, Option.bind_eq_some_iff] at h
    obtain ⟨sy, h1, h2⟩ := h
    obtain ⟨s1, h3, h4⟩ := bubble h2 fun z hz => hc z (List.mem_cons_of_mem _ hz)
    obtain ⟨c1, c2⟩ := hc y List.mem_cons_self
    obtain ⟨s3, h5, h6⟩ := stepD_comm c1 c2 h1 h3
    exact ⟨s3, h5, by simp only [List.cons_append, foldA, A.run_bind, h6, Option.bind_some]; exact h4⟩
end
end Go.Abs
/- A region that draws its order answers as its text does. -/
namespace Go.Abs
set_option linter.unusedVariables false
set_option linter.unusedSimpArgs false

section
variable {P : Program} {C : Oracle} {cf : Cfg} {base : Nat} {hu : List Nat} {ρ ρ' : RM} {μ μ' : MM} {L : LM} {H : AH} {w w' : World}

theorem RL.mask (h : RL ρ μ L H w) (l : List Nat) : RL ρ μ (maskL L l) H w := by
  have hm : ∀ t c, maskL L l t = some c → L t = some c := fun t c e => by
    unfold maskL at e
    cases l with
    | nil => exact e
    | cons a l =>
      simp only at e
      cases hc : (a :: l).contains t with
      | true => rw [hc] at e; cases e
      | false => rw [hc] at e; exact e
  exact ⟨fun t c ht => h.blk t c (hm t c ht), fun t c k b kk bs ht => h.apart t c k b kk bs (hm t c ht), fun t t' c c' k h1 h2 => h.inj t t' c c' k (hm t c h1) (hm t' c' h2)⟩

open Classical in
theorem killAll_at (b : Nat) : (killAll H base hu)[b]? = if inS base hu b then (if b < H.length then some deadB else none) else H[b]? := by
  split
  · rename_i h; exact killAll_in _ _ _ _ h
  · rename_i h; exact killAll_out _ _ _ _ h
theorem kill_some {b : Nat} {k : Blk} (h : (killAll H base hu)[b]? = some k) (hk : k.st ≠ .dead) : ¬ inS base hu b ∧ H[b]? = some k := by
  by_cases hs : inS base hu b
  · rw [killAll_in _ _ _ _ hs] at h
    split at h
    · cases h; exact absurd rfl hk
    · cases h
  · rw [killAll_out _ _ _ _ hs] at h
    exact ⟨hs, h⟩
theorem live_dead {k : Blk} (h : live k) : k.st ≠ .dead := by
  rcases h with h | h <;> rw [h] <;> intro e <;> cases e
theorem rest_some {X : AH} {b : Nat} {k : Blk} (h : (restAll H X base hu)[b]? = some k) (hk : k.st ≠ .dead) : (inS base hu b ∧ H[b]? = some k) ∨ (¬ inS base hu b ∧ X[b]? = some k) := by
  by_cases hs : inS base hu b
  · rw [restAll_in _ _ _ _ _ hs] at h
    split at h
    · cases e : H[b]? with
      | none => rw [e] at h; cases h; exact absurd rfl hk
      | some k0 => rw [e] at h; cases h; exact .inl ⟨hs, rfl⟩
    · cases h
  · rw [restAll_out _ _ _ _ _ hs] at h
    exact .inr ⟨hs, h⟩

theorem RH.kill (h : RH ρ H w) : RH ρ (killAll H base hu) w :=
  h.less (killAll_length _ _ _) (fun b k hb hr => ⟨k, (kill_some hb (by rw [hr]; intro e; cases e)).2, hr⟩) fun b k hb hl => (kill_some hb (live_dead hl)).2
theorem RL.kill (h : RL ρ μ L H w) : RL ρ μ L (killAll H base hu) w :=
  h.heap (Sub.refl _) fun t c k b kk bs ht hm hb hl e => h.apart t c k b kk bs ht hm (kill_some hb (live_dead hl)).2 hl e
theorem host_kill {n : Nat} (h : HostRw ρ (killAll H base hu) n) : HostRw ρ H n := by
  obtain ⟨b, k, bs, h1, h2, h3, h4⟩ := h
  exact ⟨b, k, bs, (kill_some h1 (by rw [h2]; intro e; cases e)).2, h2, h3, h4⟩

/-- What a call leaves, with the blocks put back that it was not shown. -/
theorem restore (hL : RL ρ μ L H w) (hH : RH ρ H w) {x : Fx} {v : Value} (g : Got ρ μ L (killAll H base hu) w x ρ' μ' v w') (hxL : x.L = L) : Got ρ μ L H w ⟨x.v, L, restAll H x.H base hu⟩ ρ' μ' v w' := by
  have hK : RH ρ (killAll H base hu) w := hH.kill
  have hsub := g.evo.sub hK
  have hlen : (killAll H base hu).length = H.length := killAll_length _ _ _
  have nd : ∀ {k : Blk}, k.st = .rw → k.st ≠ .dead := fun h => by rw [h]; intro e; cases e
  have ndo : ∀ {k : Blk}, k.st = .ro → k.st ≠ .dead := fun h => by rw [h]; intro e; cases e
  have ndr : ∀ {k : Blk}, k.st = .res → k.st ≠ .dead := fun h => by rw [h]; intro e; cases e
  have hS : ∀ b k, inS base hu b → H[b]? = some k → ρ' b = ρ b := fun b k hs hb => by
    have hlt := (List.getElem?_eq_some_iff.1 hb).1
    refine g.evo.old b (by rw [hlen]; exact hlt) fun k' hk' hr => ?_
    rw [killAll_in _ _ _ _ hs, if_pos hlt] at hk'
    cases hk'; cases hr
  have hkeep : ∀ b k bs, inS base hu b → H[b]? = some k → live k → ρ b = some bs → w'.heap[bs.blk]? = w.heap[bs.blk]? := fun b k bs hs hb hl e => by
    refine g.evo.keep _ (hH.lt hb hl e) (fun ⟨b0, k0, bs0, h1, h2, h3, h4⟩ => ?_) fun ⟨t, c, h1, _, h3⟩ => hL.apart t c _ b k bs h1 h3 hb hl e rfl
    obtain ⟨n1, n2⟩ := kill_some h1 (nd h2)
    exact hH.apart b0 b k0 k bs0 bs n2 hb h2 hl (fun e => n1 (e ▸ hs)) h3 e h4
  -- a block that the call may write: it is new, or a block that was shown
  have hrw : ∀ b k bs, ¬ inS base hu b → x.H[b]? = some k → k.st = .rw → ρ' b = some bs → w.heap.size ≤ bs.blk ∨ ∃ b0 k0 bs0, ¬ inS base hu b0 ∧ H[b0]? = some k0 ∧ k0.st = .rw ∧ ρ b0 = some bs0 ∧ bs0.blk = bs.blk := fun b k bs hs hb hr e => by
    rcases g.evo.rw bs.blk ⟨b, k, bs, hb, hr, e, rfl⟩ with h | ⟨b0, k0, bs0, h1, h2, h3, h4⟩
    · exact .inl h
    · obtain ⟨n1, n2⟩ := kill_some h1 (nd h2)
      exact .inr ⟨b0, k0, bs0, n1, n2, h2, h3, h4⟩
  have hro : ∀ b k bs, ¬ inS base hu b → x.H[b]? = some k → k.st = .ro → ρ' b = some bs → H[b]? = some k ∧ ρ b = some bs := fun b k bs hs hb hr e => by
    have h1 := g.evo.ro b k hb hr
    have hlt := (List.getElem?_eq_some_iff.1 h1).1
    rw [g.evo.old b hlt fun k' hk' hr' => by rw [h1] at hk'; cases hk'; rw [hr] at hr'; cases hr'] at e
    exact ⟨(kill_some h1 (ndo hr)).2, e⟩
  refine ⟨g.val, fun t o e => by have := g.lp t o e; rw [hxL] at this; exact this, ⟨fun t c ht => ?_, fun t c k b kk bs ht hm hb hl e => ?_, fun t t' c c' k h1 h2 => ?_⟩, ⟨fun b bs e => ?_, fun b k hb hr => ?_, fun b k hb hl => ?_, fun b b' k k' bs bs' hb hb' hr hl hne e e' => ?_⟩,
    ⟨g.evo.size, g.evo.os, g.evo.tape, g.evo.output, fun n hn h1 h2 => g.evo.keep n hn (fun h => h1 (host_kill h)) h2, ?_, fun b hb hr => ?_, fun b k' hb hk hr => ?_, fun n ⟨b, k, bs, h1, h2, h3, h4⟩ => ?_, fun b k hb hr => ?_, fun t ht => ?_, fun n h => ?_, fun t k h1 h2 h3 => ?_⟩⟩
  · exact g.rl.blk t c (by rw [hxL]; exact ht)
  · rcases rest_some hb (live_dead hl) with ⟨hs, hb⟩ | ⟨hs, hb⟩
    · rw [hS b kk hs hb] at e
      have ht' : L t = some c := ht
      have := (g.evo.lok t (by rw [ht']; rfl)).2
      rw [this] at hm
      exact hL.apart t c k b kk bs ht hm hb hl e
    · exact g.rl.apart t c k b kk bs (by rw [hxL]; exact ht) hm hb hl e
  · exact g.rl.inj t t' c c' k (by rw [hxL]; exact h1) (by rw [hxL]; exact h2)
  · show b < (restAll H x.H base hu).length
    rw [restAll_length]; exact g.rh.dom b bs e
  · rcases rest_some hb (ndr hr) with ⟨hs, hb⟩ | ⟨hs, hb⟩
    · rw [hS b k hs hb]; exact hH.res b k hb hr
    · exact g.rh.res b k hb hr
  · rcases rest_some hb (live_dead hl) with ⟨hs, hb⟩ | ⟨hs, hb⟩
    · obtain ⟨bs, c, ty, fz, h1, h2, h3, h4, h5, h6, h7, h8⟩ := hH.blk b k hb hl
      exact ⟨bs, c, ty, fz, by rw [hS b k hs hb]; exact h1, by rw [hkeep b k bs hs hb hl h1]; exact h2, h3, h4, h5, h6, h7.mono hsub, h8⟩
    · exact g.rh.blk b k hb hl
  · rcases rest_some hb (nd hr) with ⟨hs, hb⟩ | ⟨hs, hb⟩
    · rw [hS b k hs hb] at e
      have hlt := hH.lt hb (.inr hr) e
      rcases rest_some hb' (live_dead hl) with ⟨hs', hb'⟩ | ⟨hs', hb'⟩
      · rw [hS b' k' hs' hb'] at e'
        exact hH.apart b b' k k' bs bs' hb hb' hr hl hne e e'
      · rcases hl with hro' | hrw'
        · obtain ⟨h1, h2⟩ := hro b' k' bs' hs' hb' hro' e'
          exact hH.apart b b' k k' bs bs' hb h1 hr (.inl hro') hne e h2
        · rcases hrw b' k' bs' hs' hb' hrw' e' with h | ⟨b0, k0, bs0, n1, n2, n3, n4, n5⟩
          · omega
          · rw [← n5]
            exact hH.apart b b0 k k0 bs bs0 hb n2 hr (.inr n3) (fun e => n1 (e ▸ hs)) e n4
    · rcases rest_some hb' (live_dead hl) with ⟨hs', hb'⟩ | ⟨hs', hb'⟩
      · rw [hS b' k' hs' hb'] at e'
        have hlt := hH.lt hb' hl e'
        rcases hrw b k bs hs hb hr e with h | ⟨b0, k0, bs0, n1, n2, n3, n4, n5⟩
        · omega
        · rw [← n5]
          exact hH.apart b0 b' k0 k' bs0 bs' n2 hb' n3 hl (fun e => n1 (e ▸ hs')) n4 e'
      · exact g.rh.apart b b' k k' bs bs' hb hb' hr hl hne e e'
  · show H.length ≤ (restAll H x.H base hu).length
    rw [restAll_length, ← hlen]; exact g.evo.len
  · refine g.evo.old b (by rw [hlen]; exact hb) fun k hk hkr => ?_
    exact hr k (kill_some hk (ndr hkr)).2 hkr
  · rcases rest_some hk (ndr hr) with ⟨hs, hk⟩ | ⟨hs, hk⟩
    · exact ⟨k', hk, hr⟩
    · obtain ⟨k0, h1, h2⟩ := g.evo.nres b k' (by rw [hlen]; exact hb) hk hr
      exact ⟨k0, (kill_some h1 (ndr h2)).2, h2⟩
  · rcases rest_some h1 (nd h2) with ⟨hs, hb⟩ | ⟨hs, hb⟩
    · rw [hS b k hs hb] at h3
      exact .inr ⟨b, k, bs, hb, h2, h3, h4⟩
    · rcases hrw b k bs hs hb h2 h3 with h | ⟨b0, k0, bs0, n1, n2, n3, n4, n5⟩
      · exact .inl (by omega)
      · exact .inr ⟨b0, k0, bs0, n2, n3, n4, n5.trans h4⟩
  · rcases rest_some hb (ndo hr) with ⟨hs, hb⟩ | ⟨hs, hb⟩
    · exact hb
    · exact (kill_some (g.evo.ro b k hb hr) (ndo hr)).2
  · have := g.evo.lok t ht
    rw [hxL] at this; exact this
  · have := g.evo.lw n
    rw [hxL] at this; exact this h
  · have := g.evo.lnew t k
    rw [hxL] at this; exact this h1 h2 h3

theorem drawL_sound (hC : SndFn P C) (hL : RL ρ μ L H w) (hH : RH ρ H w) {ops : List Oper} {m : Msk} {i : Nat} {o : Oper} {a : Act} {e : Operand → AV} (hv : ∀ x, V ρ μ (e x) (a.eval x)) (hlp : ∀ x t n, e x = .lp t n → (L t).isSome = true) (hc : clsOf cf o = .load)
    {x : Fx} (h : (drawM P C cf ops base m i o e L H).run = some x) : Does P o a w fun v w' => ∃ ρ' μ', Got ρ μ L H w x ρ' μ' v w' := by
  rw [drawM_load hc] at h
  simp only [A.run_bind, Option.bind_eq_some_iff, A.run, Option.some.injEq] at h
  obtain ⟨u, hck, x', h2, rfl⟩ := h
  have hK : RH ρ (killAll H base m.hu) w := hH.kill
  have hM : RL ρ μ (maskL L m.lu) (killAll H base m.hu) w := (hL.mask m.lu).kill
  obtain ⟨dst, op, type, pos, after, guard⟩ := o
  cases op <;> simp only [clsOf] at hc <;> try cases hc
  case load t y =>
    simp only [opM, A.run_bind, Option.bind_eq_some_iff, A.run, Option.some.injEq] at h2
    obtain ⟨r, h1, rfl⟩ := h2
    obtain ⟨v, hr, hvv, p, rfl⟩ := load_sound (P := P) hM hK (hv y) h1
    exact .inl ⟨v, w, by simp [execOp, hr], ρ, μ, Got.pure hL hH hvv⟩
  case slice t y lo hi mx =>
    simp only [opM] at h2
    split at h2
    · rename_i el hu
      obtain ⟨hb, h2⟩ := br_run h2
      simp only [Bool.and_eq_true] at hb
      simp only [A.run_bind, Option.bind_eq_some_iff] at h2
      obtain ⟨s, h1, nlo, h3, nhi, h4, nmx, h5, u, h6, h2⟩ := h2
      simp only [A.run, Option.bind_eq_some_iff, Option.some.injEq] at h2
      obtain ⟨r, h7, rfl⟩ := h2
      have hs := hv y
      rw [asSl_run h1] at hs
      have hz : tsz P el = 1 ∨ lo = none ∨ zOk (killAll H base m.hu) s (tsz P el) = some () := by
        cases hq : Nat.beq (tsz P el) 1 with
        | true => exact .inl (Nat.eq_of_beq_eq_true hq)
        | false =>
          cases lo with
          | none => exact .inr (.inl rfl)
          | some z =>
            simp only [hq, A.run, Option.bind_eq_some_iff, Option.some.injEq] at h6
            obtain ⟨q, h6, _⟩ := h6
            exact .inr (.inr h6)
      obtain ⟨v, hr, hvv⟩ := slice_sound (P := P) (w := w) hK hu (hasI_some hb.1) hs hv h3 h4 h5 (fun h => by
        have := hb.2
        rw [h] at this
        simpa using this) hz h7
      exact .inl ⟨v, w, by simp [execOp, hr], ρ, μ, Got.pure hL hH hvv⟩
    · simp [A.run] at h2
  case alloc => split at hc <;> (try split at hc) <;> simp at hc
  case box => split at hc <;> (try split at hc) <;> simp at hc
  case call c =>
    obtain ⟨callee, args, argTypes⟩ := c
    cases callee with
    | value f => simp at hc
    | invoke => simp at hc
    | builtin b => cases b <;> simp at hc

theorem drawM_sound (hC : SndFn P C) (hL : RL ρ μ L H w) (hH : RH ρ H w) {ops : List Oper} {m : Msk} {i : Nat} {o : Oper} {a : Act} {e : Operand → AV} (hv : ∀ x, V ρ μ (e x) (a.eval x)) (hlp : ∀ x t n, e x = .lp t n → (L t).isSome = true)
    {x : Fx} (h : (drawM P C cf ops base m i o e L H).run = some x) : Does P o a w fun v w' => ∃ ρ' μ', Got ρ μ L H w x ρ' μ' v w' := by
  cases hc : clsOf cf o with
  | load =>
    exact drawL_sound hC hL hH hv hlp hc h
  | act =>
    simp only [drawM, hc] at h
    rw [A.run_bind, Option.bind_eq_some_iff] at h
    obtain ⟨X, h1, h⟩ := h
    rw [A.run_bind, Option.bind_eq_some_iff] at h
    obtain ⟨_, _, h⟩ := h
    rw [A.run_bind, Option.bind_eq_some_iff] at h
    obtain ⟨_, _, h⟩ := h
    simp only [A.run, Option.some.injEq] at h
    subst h
    obtain ⟨e1, _⟩ := opM_act hc L _ X h1
    rcases op_sound hC hL.kill hH.kill hv hlp h1 with ⟨v, w', e, ρ', μ', g⟩ | ⟨w', e, ρ', μ', g⟩ | ⟨f, args, w1, e, hcalls⟩
    · exact .inl ⟨v, w', e, ρ', μ', restore hL hH g e1⟩
    · exact .inr (.inl ⟨w', e, ρ', μ', restore hL hH g e1⟩)
    · exact .inr (.inr ⟨f, args, w1, e, hcalls.mono fun e w' ⟨v, he, ρ', μ', g⟩ => ⟨v, he, ρ', μ', restore hL hH g e1⟩⟩)
  | fresh => simp only [drawM, hc] at h; exact op_sound hC hL hH hv hlp h
  | pure => simp only [drawM, hc] at h; exact op_sound hC hL hH hv hlp h
  | alloc => simp only [drawM, hc] at h; exact op_sound hC hL hH hv hlp h
  | store => simp only [drawM, hc] at h; exact op_sound hC hL hH hv hlp h

theorem stepD_sound (hC : SndFn P C) {ops : Array Oper} {ext : List Nat} {i : Nat} {o : Oper} (ho : ops[i]? = some o) {s s' : St} {a : Act} (hR : Rel cf ρ μ s a w) (h : (stepD P C cf ops.toList ext base (o, i) s).run = some s') {K : Act → World → Prop} {Q : Exit → Act → World → Prop}
    (hK : ∀ ρ' μ' a' w', Rel cf ρ' μ' s' a' w' → Evo ρ μ s.L s.H w ρ' μ' s'.L s'.H w' → Keeps o.dst.toList a a' → K a' w') : wpOp P ops Q i K a w := by
  simp only [stepD, A.run_bind, Option.bind_eq_some_iff] at h
  obtain ⟨r, h1, h2⟩ := h
  obtain ⟨hw, hR', hL, hH⟩ := wantM_sound hR h1
  unfold wpOp
  simp only [ho, hw]
  cases hb : r.1 with
  | true =>
    simp only [hb, A.run_bind, Option.bind_eq_some_iff] at h2
    obtain ⟨x, h3, h4⟩ := h2
    simp only [if_true]
    refine .inl ((drawM_sound hC hR'.rl hR'.rh (fun y => hR'.eval y) (fun y t n e => hR'.evlp y t n e) h3).wp fun v w' ⟨ρ', μ', g⟩ => ?_)
    obtain ⟨hR2, e1, e2⟩ := putM_sound hR' g h4
    exact hK ρ' μ' _ w' hR2 (by rw [e1, e2, ← hL, ← hH]; exact g.evo) (put_keeps _ _ _)
  | false =>
    simp only [hb] at h2
    simp only [Bool.false_eq_true, if_false]
    obtain ⟨hR2, e1, e2⟩ := putM_sound hR' (skip_got hR') h2
    exact hK ρ μ _ w hR2 (by rw [e1, e2, hL, hH]; exact Evo.refl ..) (put_keeps _ _ _)
end
end Go.Abs
/- A region that draws its order answers as its text does, whatever is drawn. -/
namespace Go.Abs
set_option linter.unusedVariables false
set_option linter.unusedSimpArgs false

def maskO (o : Oper) (pre : List Nat) : Nat := o.after.toList.foldl (fun s ed => if bindsAny ed then s ||| 2 ^ ed.on ||| (pre.getD ed.on 0) else s) 0

theorem ancs_pre : ∀ (l : List Oper) (acc : List Nat), ∃ r, ancs l acc = acc.reverse ++ r
  | [], acc => ⟨[], by simp [ancs]⟩
  | o :: l, acc => by
    obtain ⟨r, h⟩ := ancs_pre l (maskO o acc.reverse :: acc)
    refine ⟨maskO o acc.reverse :: r, ?_⟩
    simp only [ancs]
    rw [show (ancs l ((o.after.toList.foldl (fun s ed => if bindsAny ed then s ||| 2 ^ ed.on ||| (acc.reverse.getD ed.on 0) else s) 0) :: acc)) = ancs l (maskO o acc.reverse :: acc) from rfl, h]
    simp

theorem ancs_at : ∀ (l : List Oper) (acc : List Nat) (i : Nat) (o : Oper), l[i]? = some o → (ancs l acc)[acc.length + i]? = some (maskO o ((ancs l acc).take (acc.length + i)))
  | [], acc, i, o, h => by simp at h
  | q :: l, acc, i, o, h => by
    have he : ancs (q :: l) acc = ancs l (maskO q acc.reverse :: acc) := rfl
    rw [he]
    cases i with
    | zero =>
      simp at h; subst h
      obtain ⟨r, hr⟩ := ancs_pre l (maskO q acc.reverse :: acc)
      rw [hr]
      simp [List.getElem?_append, List.take_append]
    | succ i =>
      have := ancs_at l (maskO q acc.reverse :: acc) i o (by simpa using h)
      simp only [List.length_cons] at this
      rw [show acc.length + (i + 1) = acc.length + 1 + i by omega]
      exact this

theorem fold_bit (pre : List Nat) (j : Nat) : ∀ (l : List Edge) (s : Nat), (l.foldl (fun s ed => if bindsAny ed then s ||| 2 ^ ed.on ||| (pre.getD ed.on 0) else s) s).testBit j = true →
    s.testBit j = true ∨ ∃ ed ∈ l, bindsAny ed = true ∧ (ed.on = j ∨ (pre.getD ed.on 0).testBit j = true)
  | [], s, h => .inl h
  | ed :: l, s, h => by
    simp only [List.foldl_cons] at h
    rcases fold_bit pre j l _ h with h | ⟨ed', h1, h2⟩
    · split at h
      · rename_i hb
        simp only [Nat.testBit_or, Bool.or_eq_true, Nat.testBit_two_pow, decide_eq_true_eq] at h
        rcases h with (h | h) | h
        · exact .inl h
        · exact .inr ⟨ed, List.mem_cons_self, hb, .inl h⟩
        · exact .inr ⟨ed, List.mem_cons_self, hb, .inr h⟩
      · exact .inl h
    · exact .inr ⟨ed', List.mem_cons_of_mem _ h1, h2⟩

theorem anc_bit {ops : List Oper} {i j : Nat} {o : Oper} (ho : ops[i]? = some o) (h : ((ancs ops []).getD i 0).testBit j = true) :
    ∃ ed ∈ o.after.toList, bindsAny ed = true ∧ (ed.on = j ∨ ((ancs ops []).getD ed.on 0).testBit j = true) := by
  have ha := ancs_at ops [] i o ho
  simp only [List.length_nil, Nat.zero_add] at ha
  rw [List.getD_eq_getElem?_getD, ha] at h
  simp only [Option.getD_some, maskO] at h
  rcases fold_bit _ j _ 0 h with h | ⟨ed, h1, h2, h3⟩
  · simp at h
  · refine ⟨ed, h1, h2, h3.imp id fun h => ?_⟩
    rw [List.getD_eq_getElem?_getD, List.getElem?_take] at h
    split at h
    · rw [List.getD_eq_getElem?_getD]; exact h
    · simp at h

theorem anc_none {ops : List Oper} {i : Nat} (hi : ops.length ≤ i) : (ancs ops []).getD i 0 = 0 := by
  have hlen : ∀ (l : List Oper) (acc : List Nat), (ancs l acc).length = acc.length + l.length := by
    intro l
    induction l with
    | nil => intro acc; simp [ancs]
    | cons o l ih => intro acc; simp only [ancs]; rw [ih]; simp; omega
  rw [List.getD_eq_getElem?_getD, List.getElem?_eq_none (by rw [hlen]; simpa using hi)]
  rfl

section
variable {P : Program} {C : Oracle} {cf : Cfg} {ops : Array Oper} {ext : List Nat} {base : Nat}

theorem drawOk_edge (hd : drawOk cf ops = true) {i : Nat} {o : Oper} (ho : ops[i]? = some o) {ed : Edge} (he : ed ∈ o.after.toList) (hb : bindsAny ed = true) : ed.on < i := by
  simp only [drawOk, Bool.and_eq_true] at hd
  have := List.all_eq_true.1 hd.1 (o, i) (List.mem_zipIdx_iff_getElem?.2 (by simpa using ho))
  have := List.all_eq_true.1 this ed he
  rw [hb] at this
  simp only [Bool.not_true, Bool.false_or] at this
  exact Nat.lt_of_succ_le (Nat.le_of_ble_eq_true this)

theorem drawOk_pair (hd : drawOk cf ops = true) {i j : Nat} {o q : Oper} (ho : ops[i]? = some o) (hq : ops[j]? = some q) (hij : j < i) (hu : unord (ancs ops.toList []) i j = true) : q.apart ops o = true ∧ fits (clsOf cf q) (clsOf cf o) = true := by
  simp only [drawOk, Bool.and_eq_true] at hd
  have := List.all_eq_true.1 hd.2 (o, i) (List.mem_zipIdx_iff_getElem?.2 (by simpa using ho))
  have := List.all_eq_true.1 this (q, j) (List.mem_zipIdx_iff_getElem?.2 (by simpa using hq))
  simp only [hu, Nat.ble_eq_true_of_le (Nat.succ_le_of_lt hij), Bool.and_self, Bool.not_true, Bool.false_or, Bool.and_eq_true] at this
  exact this

theorem anc_lt (hd : drawOk cf ops = true) : ∀ (i j : Nat), ((ancs ops.toList []).getD i 0).testBit j = true → j < i := by
  intro i
  induction i using Nat.strongRecOn with
  | _ i ih =>
    intro j h
    rcases Nat.lt_or_ge i ops.toList.length with hi | hi
    · obtain ⟨ed, h1, h2, h3⟩ := anc_bit (List.getElem?_eq_getElem hi) h
      have hi' : i < ops.size := by simpa using hi
      have he := drawOk_edge hd (o := ops[i]) (Array.getElem?_eq_getElem hi') (by simpa using h1) h2
      rcases h3 with rfl | h3
      · exact he
      · exact Nat.lt_trans (ih _ he j h3) he
    · rw [anc_none hi] at h; simp at h

abbrev unl (listed : Array Bool) (x : Oper × Nat) : Bool := !listed.getD x.2 true

theorem filter_split (listed : Array Bool) {i : Nat} {o : Oper} : ∀ (l : List Oper) (k : Nat), k ≤ i → l[i - k]? = some o → listed.getD i true = false → i < listed.size →
    ∃ l1 l2, (l.zipIdx k).filter (unl listed) = l1 ++ (o, i) :: l2 ∧ (l.zipIdx k).filter (unl (listed.setIfInBounds i true)) = l1 ++ l2 ∧ ∀ y ∈ l1, k ≤ y.2 ∧ y.2 < i ∧ l[y.2 - k]? = some y.1 ∧ listed.getD y.2 true = false
  | [], k, hk, h, _, _ => by simp at h
  | a :: l, k, hk, h, hu, hs => by
    have hset : ∀ m, m ≠ i → (listed.setIfInBounds i true).getD m true = listed.getD m true := fun m hm => by
      simp [Array.getD_eq_getD_getElem?, Array.getElem?_setIfInBounds, Ne.symm hm]
    have hseti : (listed.setIfInBounds i true).getD i true = true := by
      simp [Array.getD_eq_getD_getElem?, Array.getElem?_setIfInBounds, hs]
    rcases Nat.eq_or_lt_of_le hk with rfl | hlt
    · simp at h; subst h
      refine ⟨[], (l.zipIdx (k + 1)).filter (unl listed), ?_, ?_, by simp⟩
      · simp [List.zipIdx_cons, List.filter_cons, unl, hu]
      · simp only [List.zipIdx_cons, List.filter_cons, unl, hseti, List.nil_append, Bool.not_true]
        refine List.filter_congr fun y hy => ?_
        have := (List.mem_zipIdx hy).1
        show (!(listed.setIfInBounds k true).getD y.2 true) = !listed.getD y.2 true
        rw [hset y.2 (by omega)]
    · obtain ⟨l1, l2, h1, h2, h3⟩ := filter_split listed (i := i) (o := o) l (k + 1) (by omega) (by
        have : i - k = (i - (k + 1)) + 1 := by omega
        rw [this] at h; simpa using h) hu hs
      have h3' : ∀ y ∈ l1, k ≤ y.2 ∧ y.2 < i ∧ (a :: l)[y.2 - k]? = some y.1 ∧ listed.getD y.2 true = false := fun y hy => by
        obtain ⟨e1, e2, e3, e4⟩ := h3 y hy
        refine ⟨by omega, e2, ?_, e4⟩
        have : y.2 - k = (y.2 - (k + 1)) + 1 := by omega
        rw [this]; simpa using e3
      cases hk0 : listed.getD k true with
      | true =>
        refine ⟨l1, l2, ?_, ?_, h3'⟩
        · rw [List.zipIdx_cons, List.filter_cons]; simp only [unl, hk0, Bool.not_true]; exact h1
        · rw [List.zipIdx_cons, List.filter_cons]; simp only [unl, hset k (by omega), hk0, Bool.not_true]; exact h2
      | false =>
        refine ⟨(a, k) :: l1, l2, ?_, ?_, fun y hy => ?_⟩
        · rw [List.zipIdx_cons, List.filter_cons]; simp only [unl, hk0, Bool.not_false, if_true]; rw [show List.filter (fun x => !listed.getD x.2 true) (l.zipIdx (k + 1)) = l1 ++ (o, i) :: l2 from h1]; rfl
        · rw [List.zipIdx_cons, List.filter_cons]; simp only [unl, hset k (by omega), hk0, Bool.not_false, if_true]; rw [show List.filter (fun x => !(listed.setIfInBounds i true).getD x.2 true) (l.zipIdx (k + 1)) = l1 ++ l2 from h2]; rfl
        · rcases List.mem_cons.1 hy with rfl | hy
          · exact ⟨Nat.le_refl _, hlt, by simp, hk0⟩
          · exact h3' y hy

theorem mem_ready {listed : Array Bool} {i : Nat} : i ∈ Region.ready .any ops listed ↔ ∃ o, ops[i]? = some o ∧ listed.getD i true = false ∧ ∀ ed ∈ o.after.toList, bindsAny ed = true → listed.getD ed.on false = true := by
  simp only [Region.ready, List.mem_filter, List.mem_range, Bool.and_eq_true, Bool.not_eq_true']
  constructor
  · rintro ⟨hi, h1, h2⟩
    have ho : ops[i]? = some ops[i] := Array.getElem?_eq_getElem hi
    rw [ho] at h2
    simp only [Option.map_some, Option.getD_some, Array.all_eq_true_iff_forall_mem] at h2
    refine ⟨ops[i], ho, h1, fun ed he hb => ?_⟩
    have := h2 ed (Array.mem_toList_iff.1 he)
    have hb' : Region.binds .any ed = true := hb
    rw [hb'] at this
    simpa using this
  · rintro ⟨o, ho, h1, h2⟩
    refine ⟨(Array.getElem?_eq_some_iff.1 ho).1, h1, ?_⟩
    rw [ho]
    simp only [Option.map_some, Option.getD_some, Array.all_eq_true_iff_forall_mem]
    intro ed he
    cases hb : Region.binds .any ed with
    | false => rfl
    | true => simpa using h2 ed (Array.mem_toList_iff.2 he) hb

def Closed (ops : Array Oper) (listed : Array Bool) : Prop := ∀ i j, listed.getD i false = true → ((ancs ops.toList []).getD i 0).testBit j = true → listed.getD j false = true

theorem any_sound (hC : SndFn P C) (hd : drawOk cf ops = true) {Q : Exit → Act → World → Prop} : ∀ (n : Nat) (listed : Array Bool) {ρ : RM} {μ : MM} {s s' : St} {a : Act} {w : World}, listed.size = ops.size → Closed ops listed → ((ops.toList.zipIdx).filter (unl listed)).length = n →
    Rel cf ρ μ s a w → (foldA (stepD P C cf ops.toList ext base) ((ops.toList.zipIdx).filter (unl listed)) s).run = some s' →
    (∀ ρ' μ' a' w', Rel cf ρ' μ' s' a' w' → Evo ρ μ s.L s.H w ρ' μ' s'.L s'.H w' → Keeps (opWrites ops.toList) a a' → Q .normal a' w') → wpAny P .any ops Q n listed a w
  | 0, listed, ρ, μ, s, s', a, w, hs, hcl, hn, hR, h, hQ => by
    have hnil := List.length_eq_zero_iff.1 hn
    rw [hnil] at h
    simp only [foldA, A.run, Option.some.injEq] at h; subst h
    refine ⟨?_, hQ ρ μ a w hR (Evo.refl ..) (Keeps.refl _ _)⟩
    refine List.eq_nil_iff_forall_not_mem.2 fun i hi => ?_
    obtain ⟨o, ho, h1, _⟩ := mem_ready.1 hi
    have : (o, i) ∈ (ops.toList.zipIdx).filter (unl listed) := List.mem_filter.2 ⟨List.mem_zipIdx_iff_getElem?.2 (by simpa using ho), by simp [unl, h1]⟩
    rw [hnil] at this; cases this
  | n + 1, listed, ρ, μ, s, s', a, w, hs, hcl, hn, hR, h, hQ => by
    have hg : ∀ m, m < ops.size → listed.getD m false = listed.getD m true := fun m hm => by
      simp [Array.getD_eq_getD_getElem?, show m < listed.size by omega]
    refine ⟨fun hnil => ?_, fun i hi => ?_⟩
    · exfalso
      have key : ∀ i, i < ops.size → listed.getD i true = false → False := by
        intro i
        induction i using Nat.strongRecOn with
        | _ i ih =>
          intro hi hu
          have ho : ops[i]? = some ops[i] := Array.getElem?_eq_getElem hi
          have : i ∈ Region.ready .any ops listed := mem_ready.2 ⟨ops[i], ho, hu, fun ed he hb => by
            have hlt := drawOk_edge hd ho he hb
            cases hl : listed.getD ed.on false with
            | true => rfl
            | false =>
              rw [hg _ (by omega)] at hl
              exact (ih _ hlt (by omega) hl).elim⟩
          rw [hnil] at this; cases this
      cases hf : (ops.toList.zipIdx).filter (unl listed) with
      | nil => rw [hf] at hn; cases hn
      | cons x l =>
        have hx : x ∈ (ops.toList.zipIdx).filter (unl listed) := by rw [hf]; exact List.mem_cons_self
        obtain ⟨h1, h2⟩ := List.mem_filter.1 hx
        obtain ⟨o, i⟩ := x
        have := List.mem_zipIdx_iff_getElem?.1 h1
        exact key i (by have := (List.getElem?_eq_some_iff.1 this).1; simpa using this) (by simpa [unl] using h2)
    · obtain ⟨o, ho, hu, hpre⟩ := mem_ready.1 hi
      have hi' := (Array.getElem?_eq_some_iff.1 ho).1
      obtain ⟨l1, l2, e1, e2, e3⟩ := filter_split listed (i := i) (o := o) ops.toList 0 (Nat.zero_le _) (by simpa using ho) hu (by omega)
      -- what comes before it in every order is done
      have hanc : ∀ j, ((ancs ops.toList []).getD i 0).testBit j = true → listed.getD j false = true := fun j hj => by
        obtain ⟨ed, h1, h2, h3⟩ := anc_bit (by simpa using ho) hj
        have hl := hpre ed h1 h2
        rcases h3 with rfl | h3
        · exact hl
        · exact hcl _ _ hl h3
      rw [e1] at h hn
      obtain ⟨s1, h1, h2⟩ := bubble h fun y hy => by
        obtain ⟨_, hlt, hq, hul⟩ := e3 y hy
        simp only [Nat.sub_zero] at hq
        have hq' : ops[y.2]? = some y.1 := by simpa using hq
        have hun : unord (ancs ops.toList []) i y.2 = true := by
          simp only [unord, Bool.and_eq_true, Bool.not_eq_true']
          refine ⟨⟨beq_ne (by omega), ?_⟩, ?_⟩
          · cases hb : ((ancs ops.toList []).getD i 0).testBit y.2 with
            | false => rfl
            | true =>
              have := hanc _ hb
              rw [hg _ (by omega), hul] at this; cases this
          · cases hb : ((ancs ops.toList []).getD y.2 0).testBit i with
            | false => rfl
            | true => have := anc_lt hd _ _ hb; omega
        obtain ⟨p1, p2⟩ := drawOk_pair hd ho hq' hlt hun
        exact ⟨by simpa using p1, fun e e' => pair_comm (by simpa using ho) (by simpa using hq') hlt hun (by simpa using p1) p2 e e'⟩
      refine stepD_sound hC ho hR h1 fun ρ' μ' a' w' hR' hE hk => ?_
      refine any_sound hC hd n (listed.setIfInBounds i true) (by simpa using hs) (fun m j hm hj => ?_) (by rw [e2]; simp at hn ⊢; omega) hR' (by rw [e2]; exact h2) fun ρ'' μ'' a'' w'' hR'' hE' hk' => hQ ρ'' μ'' a'' w'' hR'' (hE.trans hE') ((hk.mono fun t ht => ?_).trans hk')
      · have hmon : ∀ j, listed.getD j false = true → (listed.setIfInBounds i true).getD j false = true := fun j hj => by
          by_cases e : i = j
          · subst e; simp [Array.getD_eq_getD_getElem?, Array.getElem?_setIfInBounds, show i < listed.size by omega]
          · simp only [Array.getD_eq_getD_getElem?, Array.getElem?_setIfInBounds, e, if_false] at hj ⊢; exact hj
        by_cases e : m = i
        · subst e; exact hmon j (hanc j hj)
        · refine hmon j (hcl m j ?_ hj)
          simp only [Array.getD_eq_getD_getElem?, Array.getElem?_setIfInBounds, Ne.symm e, if_false] at hm ⊢; exact hm
      · cases hdst : o.dst with
        | none => rw [hdst] at ht; simp at ht
        | some d =>
          rw [hdst] at ht; simp at ht; subst ht
          exact List.mem_filterMap.2 ⟨o, Array.mem_toList_iff.2 (Array.mem_of_getElem? ho), hdst⟩

/-- Blocks that are kept for a region. -/
theorem reserve_len : ∀ (n : Nat) (H : AH), (reserve H n).length = H.length + n
  | 0, H => rfl
  | n + 1, H => by simp only [reserve]; rw [reserve_len n]; simp; omega
theorem reserve_old : ∀ (n : Nat) (H : AH) (b : Nat), b < H.length → (reserve H n)[b]? = H[b]?
  | 0, H, b, h => rfl
  | n + 1, H, b, h => by
    simp only [reserve]
    rw [reserve_old n _ b (by simp; omega), List.getElem?_append_left h]
theorem reserve_new : ∀ (n : Nat) (H : AH) (b : Nat) (k : Blk), H.length ≤ b → (reserve H n)[b]? = some k → k = resB
  | 0, H, b, k, h, hk => by simp only [reserve] at hk; rw [List.getElem?_eq_none h] at hk; cases hk
  | n + 1, H, b, k, h, hk => by
    simp only [reserve] at hk
    rcases Nat.eq_or_lt_of_le h with rfl | hlt
    · rw [reserve_old n _ _ (by simp)] at hk
      simp at hk; exact hk.symm
    · exact reserve_new n _ b k (by simp; omega) hk

theorem reserve_get {n : Nat} {H : AH} {b : Nat} {k : Blk} (h : (reserve H n)[b]? = some k) (hk : k.st ≠ .res) : H[b]? = some k := by
  rcases Nat.lt_or_ge b H.length with hb | hb
  · rw [← reserve_old n H b hb]; exact h
  · have := reserve_new n H b k hb h
    subst this; exact absurd rfl hk
theorem live_res {k : Blk} (h : live k) : k.st ≠ .res := by
  rcases h with h | h <;> rw [h] <;> intro e <;> cases e

theorem RH.reserve {ρ : RM} {H : AH} {w : World} (h : RH ρ H w) (n : Nat) : RH ρ (reserve H n) w where
  dom b bs e := by rw [reserve_len]; have := h.dom b bs e; omega
  res b k hb hr := by
    rcases Nat.lt_or_ge b H.length with hl | hl
    · rw [reserve_old n H b hl] at hb; exact h.res b k hb hr
    · exact h.none_len hl
  blk b k hb hl := h.blk b k (reserve_get hb (live_res hl)) hl
  apart b b' k k' bs bs' hb hb' hr hl := h.apart b b' k k' bs bs' (reserve_get hb (by rw [hr]; intro e; cases e)) (reserve_get hb' (live_res hl)) hr hl

theorem evo_reserve {ρ : RM} {μ : MM} {L : LM} {H : AH} {w : World} (n : Nat) : Evo ρ μ L H w ρ μ L (reserve H n) w where
  size := Nat.le_refl _
  os := rfl
  tape := rfl
  output := rfl
  keep _ _ _ _ := rfl
  len := by rw [reserve_len]; omega
  old _ _ _ := rfl
  nres b k' hb hk hr := by rw [reserve_old n H b hb] at hk; exact ⟨k', hk, hr⟩
  rw m := fun ⟨b, k, bs, h1, h2, h3, h4⟩ => .inr ⟨b, k, bs, reserve_get h1 (by rw [h2]; intro e; cases e), h2, h3, h4⟩
  ro b k hb hr := reserve_get hb (by rw [hr]; intro e; cases e)
  lok t h := ⟨h, rfl⟩
  lw _ h := .inr h
  lnew t k h1 h2 _ := by rw [h2] at h1; cases h1

theorem Rel.drawn {ρ : RM} {μ : MM} {s : St} {a : Act} {w w' : World} (h : Rel cf ρ μ s a w) (e : w'.heap = w.heap) : Rel cf ρ μ s a w' :=
  ⟨h.size, h.slot, h.lps, h.rl.world fun t c k _ _ => by rw [e], h.rh.world fun b k bs _ _ _ => by rw [e], h.defers⟩

theorem Evo.from {ρ ρ' : RM} {μ μ' : MM} {L L' : LM} {H H' : AH} {w w0 w' : World} (h : Evo ρ μ L H w0 ρ' μ' L' H' w') (e : w0.heap = w.heap) (e1 : w0.os = w.os) (e2 : w0.tape = w.tape) (e3 : w0.output = w.output) : Evo ρ μ L H w ρ' μ' L' H' w' := by
  obtain ⟨h1, h2, h3, h4, h5, h6, h7, h8, h9, h10, h11, h12, h13⟩ := h
  rw [e] at h1 h5 h9 h12 h13
  exact ⟨h1, h2.trans e1, h3.trans e2, h4.trans e3, h5, h6, h7, h8, h9, h10, h11, h12, h13⟩

theorem draw_sound (hm : P.follows .mixedOrders = true) (hC : SndFn P C) : DrawSnd P C := by
  intro cf ρ μ s s' a w ext id ops Q hR h hQ
  simp only [regionM] at h
  obtain ⟨hd, h⟩ := br_run h
  refine wp_region_any hm ?_
  have hall : (ops.toList.zipIdx).filter (unl (Array.replicate ops.size false)) = ops.toList.zipIdx := List.filter_eq_self.2 fun x hx => by
    have := List.mem_zipIdx hx
    simp only [unl, Array.getD_eq_getD_getElem?]
    simp at this
    simp [Array.getElem?_replicate, this]
  have hf : ∀ i, (Array.replicate ops.size false).getD i false = false := fun i => by
    simp only [Array.getD_eq_getD_getElem?, Array.getElem?_replicate]
    split <;> rfl
  refine any_sound (ρ := ρ) (μ := μ) (ext := ext) (base := s.H.length) (s := ⟨s.env, s.L, reserve s.H (freshes cf ops.toList)⟩) (s' := s') hC hd ops.size (Array.replicate ops.size false) (by simp) (fun i j hi _ => by rw [hf] at hi; cases hi) (by rw [hall]; simp) ?_ (by rw [hall]; exact h) fun ρ' μ' a' w' hR' hE hk => ?_
  · have := hR.drawn (w' := { w with drawn := w.drawn + 1 }) rfl
    refine ⟨this.size, this.slot, this.lps, this.rl.heap (Sub.refl _) fun t c k b kk bs ht hm hb hl e => ?_, this.rh.reserve _, this.defers⟩
    exact this.rl.apart t c k b kk bs ht hm (reserve_get hb (live_res hl)) hl e
  · exact hQ ρ' μ' a' w' hR' ((evo_reserve _).trans (hE.from rfl rfl rfl rfl)) hk
end
end Go.Abs
/- Functions and loops: what the abstract interpreter answers, the program does. -/
namespace Go.Abs
set_option linter.unusedVariables false
set_option linter.unusedSimpArgs false

section
variable {P : Program} {cf : Cfg}

theorem resM_sound {ρ : RM} {μ : MM} {s : St} {a : Act} {w : World} (hR : Rel cf ρ μ s a w) {g : ResultVar → Sem Value} (g1 : ∀ t, g (.tmp t) = pure (a.tmps.getD t undef)) (g2 : ∀ b t, g (.cell b t) = do loadVar t (← asAddr (a.tmps.getD b undef))) :
    ∀ {rs : List ResultVar} {vs : List PV}, (resM rs P s).run = some vs → ∃ l : List Value, (rs.mapM g).run P w = .ok l w ∧ All2 (VP ρ) vs l
  | [], vs, h => by
    simp only [resM, A.run, Option.some.injEq] at h; subst h
    exact ⟨[], by simp, .nil⟩
  | .tmp t :: rs, vs, h => by
    simp only [resM, A.run_bind, Option.bind_eq_some_iff, A.run, Option.some.injEq] at h
    obtain ⟨p, h1, ps, h2, rfl⟩ := h
    obtain ⟨l, hl, hv⟩ := resM_sound hR g1 g2 h2
    have := hR.slot t
    rw [asPV_run h1] at this
    refine ⟨_ :: l, ?_, .cons this hv⟩
    rw [List.mapM_cons, g1]
    simp only [Sem.run_bind, Sem.run_pure, Result.andThen_ok, hl]
  | .cell b t :: rs, vs, h => by
    simp only [resM, A.run_bind, Option.bind_eq_some_iff, A.run, Option.some.injEq] at h
    obtain ⟨v0, h0, p, h1, ps, h2, rfl⟩ := h
    obtain ⟨l, hl, hv⟩ := resM_sound hR g1 g2 h2
    have hs := hR.slot b
    obtain ⟨v, hr, hvv, _⟩ := load_sound (P := P) hR.rl hR.rh hs h0
    rw [asPV_run h1] at hvv
    have hp : ∃ ad, a.tmps.getD b undef = .pointer (some ad) := by
      unfold loadM at h0
      split at h0
      · rename_i e; rw [e] at hs; obtain ⟨k, _, e⟩ := hs; exact ⟨_, e⟩
      · rename_i e; rw [e] at hs; obtain ⟨k, _, e⟩ := hs; exact ⟨_, e⟩
      · simp [A.run] at h0
    obtain ⟨ad, had⟩ := hp
    refine ⟨v :: l, ?_, .cons hvv hv⟩
    rw [List.mapM_cons, g2, had]
    rw [had] at hr
    simp only [Instr.loadAt, Instr.sureAddr, Sem.run_bind, Sem.run_pure, Result.andThen_ok] at hr
    simp only [Sem.run_bind, Sem.run_pure, Result.andThen_ok, asAddr, hr, hl]

theorem results_sound {ρ : RM} {μ : MM} {s : St} {a : Act} {w : World} (hR : Rel cf ρ μ s a w) {fn : Func} {vs : List PV} (h : (resM fn.results.toList P s).run = some vs) :
    ∃ v, (results fn a.tmps).run P w = .ok v w ∧ ResV ρ vs v := by
  unfold results
  rw [Array.mapM_eq_mapM_toList]
  simp only [Sem.run_bind, Sem.run_map]
  obtain ⟨l, h1, h2⟩ := resM_sound (a := a) hR (g := fun
    | .tmp t => pure (a.tmps.getD t undef)
    | .cell b t => do loadVar t (← asAddr (a.tmps.getD b undef))) (fun _ => rfl) (fun _ _ => rfl) h
  have hl := h2.length
  refine ⟨if h : l.toArray.size = 1 then l.toArray[0] else .tuple l.toArray, ?_, ?_⟩
  · have h1' := fun g (hg : g = (fun
      | .tmp t => pure (a.tmps.getD t undef)
      | .cell b t => do loadVar t (← asAddr (a.tmps.getD b undef)) : ResultVar → Sem Value)) => (show (fn.results.toList.mapM g).run P w = .ok l w by rw [hg]; exact h1)
    rw [h1' _ (by funext x; cases x <;> rfl)]
    simp only [Result.andThen_ok, Sem.run_pure]
  by_cases h : l.length = 1
  · match l, h, vs, hl, h2 with
    | [v], _, [p], _, .cons hp .nil => exact .inl ⟨p, rfl, hp⟩
  · exact .inr ⟨by omega, l.toArray, by simp [h], h2⟩

theorem argE_get : ∀ (xs : List PV) (n t : Nat), argE n xs t = if n ≤ t then (match xs[t - n]? with | some p => .pv p | none => .undef) else .undef
  | [], n, t => by simp [argE]
  | p :: ps, n, t => by
    simp only [argE]
    by_cases e : t = n
    · subst e; rw [updE_self]; simp
    · rw [updE_ne e, argE_get ps (n + 1) t]
      by_cases h : n ≤ t
      · have : n + 1 ≤ t := by omega
        rw [if_pos this, if_pos h]
        have : t - n = (t - (n + 1)) + 1 := by omega
        rw [this]; rfl
      · rw [if_neg h, if_neg (by omega)]

theorem enter_rel {ρ : RM} {H : AH} {w : World} (hH : RH ρ H w) {xs : List PV} {cargs : Array Value} (hx : All2 (VP ρ) xs cargs.toList) {cf : Cfg} (hn : xs.length ≤ cf.nt) :
    Rel cf ρ noM ⟨argE 0 xs, noL, H⟩ { tmps := cargs ++ Array.replicate (cf.nt - cargs.size) undef, defers := [] } w where
  size := by have := hx.length; simp at this ⊢; omega
  slot t := by
    simp only [argE_get, Nat.zero_le, if_true, Nat.sub_zero]
    cases h : xs[t]? with
    | none => trivial
    | some p =>
      have hl := hx.length
      have ht := (List.getElem?_eq_some_iff.1 h).1
      have hg : ∀ {l : List PV} {m : List Value}, All2 (VP ρ) l m → ∀ (i : Nat) (q : PV), l[i]? = some q → ∃ v, m[i]? = some v ∧ VP ρ q v := by
        intro l m hlm
        induction hlm with
        | nil => simp
        | cons a _ ih => intro i q hi
                         cases i with
                         | zero => simp at hi; subst hi; exact ⟨_, rfl, a⟩
                         | succ i => simpa using ih i q (by simpa using hi)
      obtain ⟨v, e, hv⟩ := hg hx t p h
      have : (cargs ++ Array.replicate (cf.nt - cargs.size) undef).getD t undef = v := by
        have hlt : t < cargs.size := by simpa [hl] using ht
        simp only [Array.getD_eq_getD_getElem?, Array.getElem?_append, hlt, if_true]
        simp at e; rw [e]; rfl
      simp only
      rw [this]; exact hv
  lps t t' o e := by
    simp only [argE_get, Nat.zero_le, if_true] at e
    split at e <;> cases e
  rl := ⟨fun t c h => (by cases h), fun t c k b kk bs h => (by cases h), fun t t' c c' k h => (by cases h)⟩
  rh := hH
  defers := rfl

theorem RL.none {ρ : RM} {μ : MM} {H : AH} {w : World} : RL ρ μ noL H w := ⟨fun t c h => (by cases h), fun t c k b kk bs h => (by cases h), fun t t' c c' k h => (by cases h)⟩

theorem packOuts_ok {e : Env} {outs : List (Nat × TypeId)} {ps : List PV} (h : (packOuts e outs).run = some ps) : ps.length = outs.length := (packOuts_run h).length.symm

theorem Evo.trans2 {ρ ρ' ρ'' : RM} {μ μ' μ'' : MM} {L L' L1 L'' : LM} {H H' H'' : AH} {w w' w'' : World}
    (a : Evo ρ μ L H w ρ' μ' L' H' w') (b : Evo ρ' μ' L1 H' w' ρ'' μ'' L'' H'' w'') (hL : ∀ t, (L t).map (·.ro) = (L1 t).map (·.ro)) : Evo ρ μ L H w ρ'' μ'' L'' H'' w'' := by
  have hdom : ∀ t, (L t).isSome = (L1 t).isSome := fun t => by
    have := congrArg Option.isSome (hL t)
    simpa using this
  have hhost : ∀ n, HostL μ' L1 n → HostL μ L n := fun n ⟨t, c, h1, h2, h3⟩ => by
    have := hL t
    rw [h1] at this
    simp only [Option.map_some, Option.map_eq_some_iff] at this
    obtain ⟨c0, h4, h5⟩ := this
    exact ⟨t, c0, h4, by rw [h5]; exact h2, by rw [← (a.lok t (by rw [h4]; rfl)).2]; exact h3⟩
  refine ⟨Nat.le_trans a.size b.size, b.os.trans a.os, b.tape.trans a.tape, b.output.trans a.output, fun n hn h1 h2 => ?_, Nat.le_trans a.len b.len, fun n hn hr => ?_, fun n k hn hk e => ?_, fun n h => ?_, fun n k h hr => a.ro n k (b.ro n k h hr) hr, fun t h => ?_, fun n h => ?_, fun t k h1 h2 h3 => ?_⟩
  · rw [b.keep n (Nat.lt_of_lt_of_le hn a.size) ?_ ?_, a.keep n hn h1 h2]
    · intro h; rcases a.rw n h with h | h
      · omega
      · exact h1 h
    · exact fun h => h2 (hhost n h)
  · rw [b.old n (Nat.lt_of_lt_of_le hn a.len) ?_, a.old n hn hr]
    intro k hk e
    obtain ⟨k0, h0, e0⟩ := a.nres n k hn hk e
    exact hr k0 h0 e0
  · obtain ⟨k1, h1, e1⟩ := b.nres n k (Nat.lt_of_lt_of_le hn a.len) hk e
    exact a.nres n k1 hn h1 e1
  · rcases b.rw n h with h | h
    · exact .inl (Nat.le_trans a.size h)
    · exact a.rw n h
  · obtain ⟨h1, e1⟩ := a.lok t h
    obtain ⟨h2, e2⟩ := b.lok t (by rw [← hdom]; exact h)
    exact ⟨h2, e2.trans e1⟩
  · rcases b.lw n h with h | h
    · exact .inl (Nat.le_trans a.size h)
    · exact .inr (hhost n h)
  · exact Nat.le_trans a.size (b.lnew t k h1 (by rw [← hdom]; exact h2) h3)

theorem linsL_ro : ∀ {lins : List (Nat × TypeId × Bool)} {ps qs : List PV}, ps.length = lins.length → qs.length = lins.length → ∀ t, (linsL lins ps t).map (·.ro) = (linsL lins qs t).map (·.ro)
  | [], [], [], _, _, t => rfl
  | (u, ty, b) :: l, p :: ps, q :: qs, h1, h2, t => by
    simp only [linsL]
    by_cases e : t = u
    · subst e; rw [updL_self, updL_self]; rfl
    · rw [updL_ne e, updL_ne e]
      exact linsL_ro (by simpa using h1) (by simpa using h2) t

theorem packW_e {ws : List Ways} {q : Nat × St} {o : Out} (h : (packW ws q).run = some o) : o.e = q.1 := by
  unfold packW at h
  split at h
  · simp [A.run] at h
  · simp only [A.run_bind, Option.bind_eq_some_iff, A.run, Option.some.injEq] at h
    obtain ⟨a, _, b, _, rfl⟩ := h
    rfl

theorem occs_in' (c0 : Code) (h0 : Hint) : ∀ {i : Nat} {c : Code} {id : Nat} {ins : List (Nat × TypeId)} {lins : List (Nat × TypeId × Bool)} {ws : List Ways} {hh : Hint}, (i, c, Hint.lp id ins lins ws hh) ∈ occs c0 h0 → ∀ x ∈ occs c hh, x ∈ occs c0 h0 := by
  fun_induction occs c0 h0 with
  | case1 a b ws ha hb iha ihb =>
    intro i c id ins lins ws hh hm x hx
    rcases List.mem_append.1 hm with h | h
    · exact List.mem_append_left _ (iha h x hx)
    · exact List.mem_append_right _ (ihb h x hx)
  | case2 a b h _ iha ihb =>
    intro i c id ins lins ws hh hm x hx
    rcases List.mem_append.1 hm with h | h
    · exact List.mem_append_left _ (iha h x hx)
    · exact List.mem_append_right _ (ihb h x hx)
  | case3 _ a b h iha ihb =>
    intro i c id ins lins ws hh hm x hx
    rcases List.mem_append.1 hm with h | h
    · exact List.mem_append_left _ (iha h x hx)
    · exact List.mem_append_right _ (ihb h x hx)
  | case4 _ c h ih => intro i c id ins lins ws hh hm x hx; exact ih hm x hx
  | case5 c h ih => intro i c id ins lins ws hh hm x hx; exact ih hm x hx
  | case6 c id ins lins ws h ih =>
    intro i c id ins lins ws hh hm x hx
    rcases List.mem_cons.1 hm with h | h
    · cases h; exact List.mem_cons_of_mem _ hx
    · exact List.mem_cons_of_mem _ (ih h x hx)
  | case7 => intro i c id ins lins ws hh hm; cases hm

theorem occs_in {c0 : Code} {h0 : Hint} {i : Nat} {c : Code} {id : Nat} {ins : List (Nat × TypeId)} {lins : List (Nat × TypeId × Bool)} {ws : List Ways} {hh : Hint} (h : findLoop c0 h0 i = some (c, Hint.lp id ins lins ws hh)) : ∀ x ∈ occs c hh, x ∈ occs c0 h0 := by
  unfold findLoop at h
  simp only [Option.map_eq_some_iff] at h
  obtain ⟨y, h1, h2⟩ := h
  have := List.mem_of_find?_eq_some h1
  obtain ⟨i, c', hh'⟩ := y
  simp only [Prod.mk.injEq] at h2
  obtain ⟨rfl, rfl⟩ := h2
  exact occs_in' c0 h0 this

theorem procs_sound {T : Table} (hD : ∀ C, SndFn P C → DrawSnd P C) (hN : ∀ (f : Nat) (fn : Func), P.funcs[f]? = some fn → fn.body.isSome = true → fn.name ≠ "runtime.NumGoroutine") : ∀ n, SndFn P (runN P T n) ∧ SndLp P T (runN P T n) n
  | 0 => ⟨fun f xs H r h => by simp [runN] at h, fun f id xs H o h => by simp [runN] at h⟩
  | n + 1 => by
    obtain ⟨iF, iL⟩ := procs_sound hD hN n
    refine ⟨fun f xs H r h => ?_, fun f id xs H o h fn c0 c id' ins lins ws hh hf hb hfl ρ μ a w Q hR hQ => ?_⟩
    · simp only [runN, procM] at h
      split at h
      · rename_i fn hf
        split at h
        · rename_i c hb
          obtain ⟨hg, h⟩ := br_run h
          simp only [Bool.and_eq_true] at hg
          simp only [A.run_bind, Option.bind_eq_some_iff] at h
          obtain ⟨q, h1, h2⟩ := h
          obtain ⟨hq, h2⟩ := br_run h2
          simp only [A.run_bind, Option.bind_eq_some_iff, A.run, Option.some.injEq] at h2
          obtain ⟨vs, h3, rfl⟩ := h2
          refine ⟨⟨fn, hf, by rw [hb]; rfl, hN f fn hf (by rw [hb]; rfl)⟩, fun ρ w cargs hH hx => calls_of_wp hf hb ?_⟩
          refine aev_sound iF (hD _ iF) iL hf hb hg.2 c _ _ q (fun x hx => hx) h1 ρ noM _ w _ (enter_rel (cf := ⟨f, fn.ntmps, (T f).heap⟩) hH hx (Nat.le_of_ble_eq_true hg.1)) fun ρ' μ' a' w' r1 r2 r3 => ?_
          obtain ⟨v, hv, hrv⟩ := results_sound r1 h3
          have hE : Evo ρ noM noL H w ρ' noM noL q.2.H w' := ⟨r2.size, r2.os, r2.tape, r2.output, r2.keep, r2.len, r2.old, r2.nres, r2.rw, r2.ro, fun t h => (by cases h), fun n ⟨t, c, h, _⟩ => (by cases h), fun t k h => (by cases h)⟩
          have hq' : q.1 = 0 ∨ q.1 = 1 := by have := Nat.le_of_ble_eq_true hq; omega
          rcases hq' with e | e <;> rw [e] <;> exact ⟨r1.defers, v, hv, v, ρ', rfl, hrv, r1.rh, hE⟩
        · simp [A.run] at h
      · simp [A.run] at h
    · simp only [runN, procM, hf, hb, hfl] at h
      obtain ⟨hg, h⟩ := br_run h
      simp only [Bool.and_eq_true] at hg
      simp only [A.run_bind, Option.bind_eq_some_iff] at h
      obtain ⟨q, h1, h2⟩ := h
      have hocc : ∀ x ∈ occs c hh, x ∈ occs c0 (T f).hint := occs_in hfl
      rw [rounds_succ]
      refine aev_sound iF (hD _ iF) iL hf hb hg.2 c hh _ q hocc h1 ρ μ a w _ hR fun ρ' μ' a' w' r1 r2 r3 => then_of (fun e => ?_) fun e => ?_
      · obtain ⟨q0, st'⟩ := q
        simp only at e
        subst e
        simp only [A.run_bind, Option.bind_eq_some_iff, A.run] at h2
        obtain ⟨xa, h3, xb, h4, h5⟩ := h2
        have hst := loop_start r1 h3 h4
        refine iL f id _ _ o h5 fn c0 c id' ins lins ws hh hf hb hfl ρ' μ' a' w' Q hst fun ρ'' μ'' st'' a'' w'' s1 s2 s3 s4 s5 => ?_
        refine hQ ρ'' μ'' st'' a'' w'' s1 (r2.trans2 s2 fun t => ?_) (r3.trans s3) s4 s5
        have e1 := Nat.eq_of_beq_eq_true hg.1
        have e2 := (packOuts_run h3).length
        have e3 := (packLs_run h4).length
        exact linsL_ro (by simp; omega) (by simp at e3 ⊢; omega) t
      · obtain ⟨q0, st'⟩ := q
        cases q0 with
        | zero => exact absurd rfl e
        | succ m =>
          simp only at h2
          have : o.e = m + 1 := packW_e h2
          have := hQ ρ' μ' st' a' w' r1 r2 r3 (by rw [this]; exact h2) (by omega)
          rw [‹o.e = m + 1›] at this
          exact this
/-- The word of the abstract interpreter is the program's. -/
theorem run_sound {T : Table} (hm : P.follows .mixedOrders = true) (hN : (P.funcs.all fun fn => !fn.body.isSome || fn.name != "runtime.NumGoroutine") = true) : SndFn P (run P T) := fun f xs H r h => by
  obtain ⟨n, hn⟩ := run_some.1 h
  refine (procs_sound (fun C hC => draw_sound hm hC) (fun f fn hf hb => ?_) n).1 f xs H r hn
  have := Array.all_eq_true_iff_forall_mem.1 hN fn (Array.mem_of_getElem? hf)
  rw [hb] at this
  simpa using this
end
end Go.Abs
/- Arguments that read: their memory as blocks that are only read. -/
namespace Go.Abs
set_option linter.unusedVariables false
set_option linter.unusedSimpArgs false

/-- Cells of a type, in a heap whose blocks are only read. -/
def typed (P : Program) : Nat → AH → TypeId → List Sc → Prop
  | 0, _, _, _ => False
  | n + 1, H, t, l => match P.underlying t with
    | some (.int k) => ∃ i, l = [.int k i] ∧ (Lit.int k i).wf = true
    | some .bool => ∃ b, l = [.bool b]
    | some .string => ∃ s, l = [.str s] ∧ s.size ≤ maxLen
    | some (.slice e) => l = [.sl ⟨0, 0, 0, 0, true⟩] ∨ ∃ b m c cells, l = [.sl ⟨b, 0, m, c, true⟩] ∧ m ≤ c ∧ 1 ≤ c ∧ c ≤ maxLen ∧ H[b]? = some ⟨cells, .ro, tsz P e⟩ ∧ cells.length = c * tsz P e ∧
        ∀ i, i < c → typed P n H e ((cells.drop (i * tsz P e)).take (tsz P e))
    | some (.struct fs) => l.length = tsz P t ∧ ∀ f ∈ fs.toList, typed P n H f.type ((l.drop f.offset).take (tsz P f.type))
    | _ => False

def tiles (P : Program) : Nat → List Field → Nat → Bool
  | o, [], z => Nat.beq o z
  | o, f :: fs, z => Nat.beq f.offset o && tiles P (o + tsz P f.type) fs z
def openOk (P : Program) : Nat → TypeId → Bool
  | 0, _ => false
  | n + 1, t => match P.underlying t with
    | some (.int _) | some .bool | some .string => true
    | some (.slice e) => Nat.ble 1 (tsz P e) && openOk P n e
    | some (.struct fs) => tiles P 0 fs.toList (tsz P t) && fs.toList.all fun f => openOk P n f.type
    | _ => false

def AllRo (H : AH) : Prop := ∀ (b : Nat) (k : Blk), H[b]? = some k → k.st = .ro

section
variable {P : Program} {H : Type} {enc : TypeId × Value → H} {W : World}

theorem mapM_all {α β : Type} {f : α → Option β} : ∀ {l : List α} {r : List β}, l.mapM f = some r → ∀ x ∈ l, ∃ y, f x = some y
  | [], r, _, x, hx => by simp at hx
  | a :: l, r, h, x, hx => by
    rw [List.mapM_cons] at h
    simp only [Option.bind_eq_bind, Option.bind_eq_some_iff] at h
    obtain ⟨y, h1, ys, h2, _⟩ := h
    rcases List.mem_cons.1 hx with rfl | hx
    · exact ⟨y, h1⟩
    · exact mapM_all h2 x hx
theorem mapM_at {α β : Type} {f : α → Option β} : ∀ {l : List α} {r : List β}, l.mapM f = some r → r.length = l.length ∧ ∀ (i : Nat) (a : α), l[i]? = some a → ∃ y, f a = some y ∧ r[i]? = some y
  | [], r, h => by
    simp at h; subst h; simp
  | a :: l, r, h => by
    rw [List.mapM_cons] at h
    simp only [Option.bind_eq_bind, Option.bind_eq_some_iff, Option.pure_def, Option.some.injEq] at h
    obtain ⟨y, h1, ys, h2, rfl⟩ := h
    obtain ⟨e, g⟩ := mapM_at h2
    refine ⟨by simp [e], fun i x hi => ?_⟩
    cases i with
    | zero => simp at hi; subst hi; exact ⟨y, h1, rfl⟩
    | succ i => simpa using g i x (by simpa using hi)

theorem typed_more (X : AH) : ∀ (n : Nat) (H : AH) (t : TypeId) (l : List Sc), typed P n H t l → typed P n (H ++ X) t l
  | 0, _, _, _, h => h
  | n + 1, H, t, l, h => by
    simp only [typed] at h ⊢
    split at h
    · exact h
    · exact h
    · exact h
    · rcases h with h | ⟨b, m, c, cells, h1, h2, h3, h4, h5, h6, h7⟩
      · exact .inl h
      · refine .inr ⟨b, m, c, cells, h1, h2, h3, h4, ?_, h6, fun i hi => typed_more X n _ _ _ (h7 i hi)⟩
        have := (List.getElem?_eq_some_iff.1 h5).1
        rw [List.getElem?_append_left this]; exact h5
    · exact ⟨h.1, fun f hf => typed_more X n _ _ _ (h.2 f hf)⟩
    · exact h

theorem AllRo.app {H X : AH} (h : AllRo H) (k : AllRo X) : AllRo (H ++ X) := fun b kb hb => by
  rw [List.getElem?_append] at hb
  split at hb
  · exact h b kb hb
  · exact k _ kb hb

/-- A block that is only read is laid beside others of its kind. -/
theorem RH.lay {ρ : RM} {H : AH} (h : RH ρ H W) (ha : AllRo H) {cells : List Sc} {z : Nat} {bs : Bs} {c : Array Value} {ty : TypeId} {fz : Nat × Nat} (hw : W.heap[bs.blk]? = some (.cells c ty fz)) (hz : bs.z = z) (hz1 : 1 ≤ z) (he : cells.length ≤ bs.ext) (hs : bs.off + bs.ext ≤ c.size)
    (hl : Lies ρ cells c bs.off) : RH (updR ρ H.length (some bs)) (H ++ [⟨cells, .ro, z⟩]) W ∧ Sub ρ (updR ρ H.length (some bs)) ∧ AllRo (H ++ [⟨cells, .ro, z⟩]) := by
  have hn : ρ H.length = none := h.none_len (Nat.le_refl _)
  have hsub : Sub ρ (updR ρ H.length (some bs)) := .upd hn
  have hro : AllRo (H ++ [⟨cells, .ro, z⟩]) := ha.app fun b k hb => by
    cases b with
    | zero => simp at hb; subst hb; rfl
    | succ b => simp at hb
  refine ⟨⟨fun b x e => ?_, fun b k hb hr => ?_, fun b k hb hlv => ?_, fun b b' k k' x x' hb hb' hr => ?_⟩, hsub, hro⟩
  · by_cases hb : b = H.length
    · subst hb; simp
    · rw [updR_ne hb] at e; have := h.dom b x e; simp; omega
  · have := hro b k hb; rw [hr] at this; cases this
  · by_cases e : b = H.length
    · subst e
      simp at hb; subst hb
      exact ⟨bs, c, ty, fz, updR_self, hw, hz, by rw [hz]; exact hz1, he, hs, hl.mono hsub, fun h => by cases h⟩
    · have hlt : b < H.length := by
        have := (List.getElem?_eq_some_iff.1 hb).1; simp at this; omega
      rw [List.getElem?_append_left hlt] at hb
      obtain ⟨x, c', ty', fz', h1, h2, h3, h4, h5, h6, h7, h8⟩ := h.blk b k hb hlv
      exact ⟨x, c', ty', fz', by rw [updR_ne e]; exact h1, h2, h3, h4, h5, h6, h7.mono hsub, h8⟩
  · have := hro b k hb; rw [hr] at this; cases this

/-- What is wanted of a row of cells. -/
def Opens (P : Program) (W : World) (n : Nat) (t : TypeId) (cs : List Value) : Prop :=
  ∀ (ρ : RM) (H : AH), RH ρ H W → AllRo H → ∃ ρ' X l, Sub ρ ρ' ∧ RH ρ' (H ++ X) W ∧ AllRo (H ++ X) ∧ typed P n (H ++ X) t l ∧ VSs ρ' l cs

theorem opens_list {n : Nat} : ∀ (l : List (TypeId × List Value)), (∀ x ∈ l, Opens P W n x.1 x.2) → ∀ (ρ : RM) (H : AH), RH ρ H W → AllRo H →
    ∃ ρ' X ls, Sub ρ ρ' ∧ RH ρ' (H ++ X) W ∧ AllRo (H ++ X) ∧ All2 (fun (x : TypeId × List Value) sc => typed P n (H ++ X) x.1 sc ∧ VSs ρ' sc x.2) l ls
  | [], _, ρ, H, hH, ha => ⟨ρ, [], [], Sub.refl _, by simpa using hH, by simpa using ha, .nil⟩
  | x :: l, ho, ρ, H, hH, ha => by
    obtain ⟨ρ1, X1, sc, s1, h1, a1, t1, v1⟩ := ho x List.mem_cons_self ρ H hH ha
    obtain ⟨ρ2, X2, ls, s2, h2, a2, g⟩ := opens_list l (fun y hy => ho y (List.mem_cons_of_mem _ hy)) ρ1 (H ++ X1) h1 a1
    refine ⟨ρ2, X1 ++ X2, sc :: ls, s1.trans s2, by rw [← List.append_assoc]; exact h2, by rw [← List.append_assoc]; exact a2, ?_⟩
    rw [← List.append_assoc]
    exact .cons ⟨typed_more X2 _ _ _ _ t1, v1.mono s2⟩ g

theorem flat_at {α : Type} {z : Nat} : ∀ {ls : List (List α)}, (∀ l ∈ ls, l.length = z) → ∀ i (l : List α), ls[i]? = some l → (ls.flatten.drop (i * z)).take z = l
  | [], _, i, l, h => by simp at h
  | a :: ls, hl, i, l, h => by
    have ha := hl a List.mem_cons_self
    cases i with
    | zero => simp at h; subst h; simp [List.take_append, ha]
    | succ i =>
      simp only [List.flatten_cons]
      have : (i + 1) * z = a.length + i * z := by rw [ha, Nat.succ_mul, Nat.add_comm]
      rw [this, List.drop_append]
      simp only [Nat.add_sub_cancel_left]
      have : List.drop (a.length + i * z) a = [] := List.drop_eq_nil_of_le (by omega)
      rw [this, List.nil_append]
      exact flat_at (fun l hm => hl l (List.mem_cons_of_mem _ hm)) i l (by simpa using h)
theorem flat_size {α : Type} {z : Nat} : ∀ {ls : List (List α)}, (∀ l ∈ ls, l.length = z) → ls.flatten.length = ls.length * z
  | [], _ => by simp
  | a :: ls, h => by
    simp only [List.flatten_cons, List.length_append, List.length_cons]
    rw [h a List.mem_cons_self, flat_size fun l hm => h l (List.mem_cons_of_mem _ hm), Nat.succ_mul, Nat.add_comm]

theorem typed_len {n : Nat} {H : AH} {t : TypeId} {l : List Sc} {vs : List Value} {ρ : RM} (h : VSs ρ l vs) : l.length = vs.length := h.length

theorem cells_at {base : Nat} {a : Addr} {n : Nat} {cs : List Value} (h : W.cells? base a n = some cs) : cs.length = n ∧ ∀ i, i < n → ∃ v, W.cell? (a.add i) = some v ∧ cs[i]? = some v := by
  unfold World.cells? at h
  split at h
  · obtain ⟨e, g⟩ := mapM_at h
    refine ⟨by simpa using e, fun i hi => g i i (by simp [hi])⟩
  · cases h

theorem cell_spot {a : Addr} {v : Value} (h : W.cell? a = some v) : a.spot = none := by
  unfold World.cell? at h
  split at h
  · cases e : a.spot with
    | none => rfl
    | some x => simp [e] at h
  · cases h
theorem cell_in {b o : Nat} {v : Value} (h : W.cell? ⟨b, o, none⟩ = some v) : ∃ c ty fz, W.heap[b]? = some (.cells c ty fz) ∧ c[o]? = some v := by
  unfold World.cell? at h
  split at h
  · rename_i c ty fz hb
    exact ⟨c, ty, fz, hb, by simpa using h⟩
  · cases h

theorem VSs.flatten {ρ : RM} {ls : List (List Sc)} {css : List (List Value)} (h : All2 (VSs ρ) ls css) : VSs ρ ls.flatten css.flatten := by
  induction h with
  | nil => exact .nil
  | cons a _ ih => simp only [List.flatten_cons]; exact a.append ih

theorem All2.at {α β : Type} {R : α → β → Prop} {l : List α} {m : List β} (h : All2 R l m) : ∀ (i : Nat) (b : β), m[i]? = some b → ∃ a, l[i]? = some a ∧ R a b := by
  induction h with
  | nil => simp
  | cons a _ ih => intro i b hi
                   cases i with
                   | zero => simp at hi; subst hi; exact ⟨_, rfl, a⟩
                   | succ i => simpa using ih i b (by simpa using hi)
theorem All2.atl {α β : Type} {R : α → β → Prop} {l : List α} {m : List β} (h : All2 R l m) : ∀ (i : Nat) (a : α), l[i]? = some a → ∃ b, m[i]? = some b ∧ R a b := by
  induction h with
  | nil => simp
  | cons a _ ih => intro i b hi
                   cases i with
                   | zero => simp at hi; subst hi; exact ⟨_, rfl, a⟩
                   | succ i => simpa using ih i b (by simpa using hi)
theorem All2.flip {α β : Type} {R : α → β → Prop} {S : β → α → Prop} {l : List α} {m : List β} (h : All2 R l m) (f : ∀ a b, R a b → S b a) : All2 S m l := by
  induction h with
  | nil => exact .nil
  | cons a _ ih => exact .cons (f _ _ a) ih
theorem All2.mapl {α β γ : Type} {R : α → β → Prop} {f : γ → α} {l : List γ} {m : List β} (h : All2 R (l.map f) m) : All2 (fun x b => R (f x) b) l m := by
  induction l generalizing m with
  | nil => cases h; exact .nil
  | cons c l ih => cases h with | cons a t => exact .cons a (ih t)

theorem open_slice {n : Nat} {e : TypeId} (hz : 1 ≤ tsz P e) {a : Addr} {len cap : Nat} (hlc : len ≤ cap) (hcm : cap ≤ maxLen) (hel : ∀ i, i < cap → ∃ cs, W.cells? 0 (a.add (i * tsz P e)) (tsz P e) = some cs ∧ Opens P W n e cs)
    {ρ : RM} {H : AH} (hH : RH ρ H W) (ha : AllRo H) : ∃ ρ' X l, Sub ρ ρ' ∧ RH ρ' (H ++ X) W ∧ AllRo (H ++ X) ∧ (l = [.sl ⟨0, 0, 0, 0, true⟩] ∨ ∃ b m c cells, l = [.sl ⟨b, 0, m, c, true⟩] ∧ m ≤ c ∧ 1 ≤ c ∧ c ≤ maxLen ∧ (H ++ X)[b]? = some ⟨cells, .ro, tsz P e⟩ ∧ cells.length = c * tsz P e ∧
        ∀ i, i < c → typed P n (H ++ X) e ((cells.drop (i * tsz P e)).take (tsz P e))) ∧ VSs ρ' l [.slice (some a) len cap] := by
  rcases Nat.eq_zero_or_pos cap with rfl | hc
  · obtain rfl : len = 0 := by omega
    exact ⟨ρ, [], [.sl ⟨0, 0, 0, 0, true⟩], Sub.refl _, by simpa using hH, by simpa using ha, .inl rfl, .cons ⟨some a, 0, rfl, Nat.le_refl _, Nat.le_refl _, fun _ => rfl, .inl rfl⟩ .nil⟩
  -- the elements
  have hch : ∀ m, ∃ css : List (List Value), (m ≤ cap → css.length = m ∧ ∀ i cs, css[i]? = some cs → W.cells? 0 (a.add (i * tsz P e)) (tsz P e) = some cs ∧ Opens P W n e cs) := by
    intro m
    induction m with
    | zero => exact ⟨[], fun _ => ⟨rfl, by simp⟩⟩
    | succ m ih =>
      obtain ⟨css, h⟩ := ih
      by_cases hm : m + 1 ≤ cap
      · obtain ⟨h1, h2⟩ := h (by omega)
        obtain ⟨cs, h3, h4⟩ := hel m (by omega)
        refine ⟨css ++ [cs], fun _ => ⟨by simp [h1], fun i x hi => ?_⟩⟩
        rw [List.getElem?_append] at hi
        split at hi
        · exact h2 i x hi
        · rename_i hlt
          have : i = m := by
            have := (List.getElem?_eq_some_iff.1 hi).1
            simp at this; omega
          subst this
          rw [h1, Nat.sub_self] at hi
          simp at hi; subst hi; exact ⟨h3, h4⟩
      · exact ⟨[], fun h => absurd h hm⟩
  obtain ⟨css, hcss⟩ := hch cap
  obtain ⟨hcl, hcs⟩ := hcss (Nat.le_refl _)
  obtain ⟨ρ1, X, ls, s1, h1, a1, g⟩ := opens_list (n := n) (P := P) (W := W) (css.map fun cs => (e, cs)) (fun x hx => by
    obtain ⟨cs, hm, rfl⟩ := List.mem_map.1 hx
    obtain ⟨i, hi⟩ := List.getElem?_of_mem hm
    exact (hcs i cs hi).2) ρ H hH ha
  have g := g.mapl
  -- where they lie
  have h00 : a.spot = none := by
    obtain ⟨cs, h3, _⟩ := hel 0 hc
    obtain ⟨_, h4⟩ := cells_at h3
    obtain ⟨v, h5, _⟩ := h4 0 hz
    simp only [Nat.zero_mul, Addr.add, if_true] at h5
    exact cell_spot h5
  obtain ⟨blk, off, spot⟩ := a
  simp only at h00; subst h00
  have hat : ∀ i j, i < cap → j < tsz P e → ∃ cs v, css[i]? = some cs ∧ cs.length = tsz P e ∧ cs[j]? = some v ∧ W.cell? ⟨blk, off + (i * tsz P e + j), none⟩ = some v := fun i j hi hj => by
    have hlt : i < css.length := by omega
    have hg := List.getElem?_eq_getElem hlt
    obtain ⟨h3, _⟩ := hcs i _ hg
    obtain ⟨e3, h4⟩ := cells_at h3
    obtain ⟨v, h5, h6⟩ := h4 j hj
    refine ⟨_, v, hg, e3, h6, ?_⟩
    rw [add_at, add_at, Nat.add_assoc] at h5
    exact h5
  obtain ⟨_, v0, _, _, _, h6⟩ := hat 0 0 hc hz
  obtain ⟨c, ty, fz, hblk, _⟩ := cell_in h6
  have hcell : ∀ i j, i < cap → j < tsz P e → ∃ cs v, css[i]? = some cs ∧ cs[j]? = some v ∧ c[off + (i * tsz P e + j)]? = some v := fun i j hi hj => by
    obtain ⟨cs, v, e1, _, e2, e3⟩ := hat i j hi hj
    obtain ⟨c', ty', fz', hb, hv⟩ := cell_in e3
    rw [hblk] at hb; cases hb
    exact ⟨cs, v, e1, e2, hv⟩
  have hlsz : ∀ l ∈ ls, l.length = tsz P e := fun l hl => by
    obtain ⟨i, hi⟩ := List.getElem?_of_mem hl
    obtain ⟨cs, e1, _, e2⟩ := g.at i l hi
    rw [VSs.length e2]
    have hlt := (List.getElem?_eq_some_iff.1 e1).1
    obtain ⟨cs', v, f1, f2, _⟩ := hat i 0 (by omega) hz
    rw [e1] at f1; cases f1
    exact f2
  have hlen : ls.length = cap := by rw [← g.length]; exact hcl
  have hfl : ls.flatten.length = cap * tsz P e := by rw [flat_size hlsz, hlen]
  have hlies : Lies ρ1 ls.flatten c off := fun k s hk => by
    have hkl : k < cap * tsz P e := by rw [← hfl]; exact (List.getElem?_eq_some_iff.1 hk).1
    have hi : k / tsz P e < cap := (Nat.div_lt_iff_lt_mul hz).2 hkl
    have hj : k % tsz P e < tsz P e := Nat.mod_lt _ hz
    have hkk : k / tsz P e * tsz P e + k % tsz P e = k := by rw [Nat.mul_comm]; exact Nat.div_add_mod k _
    obtain ⟨cs, v, e1, e2, e3⟩ := hcell _ _ hi hj
    rw [hkk] at e3
    obtain ⟨l, f1, f2⟩ := g.atl _ _ e1
    refine ⟨v, e3, ?_⟩
    have hfa := flat_at hlsz _ _ f1
    have : l[k % tsz P e]? = some s := by
      rw [← hfa, List.getElem?_take, if_pos hj, List.getElem?_drop, hkk]; exact hk
    obtain ⟨v', e4, hv⟩ := f2.2.get this
    rw [e2] at e4; cases e4
    exact hv
  have hsize : off + cap * tsz P e ≤ c.size := by
    have hpos : 0 < cap * tsz P e := Nat.mul_pos hc hz
    obtain ⟨cs, v, e1, e2, e3⟩ := hcell (cap - 1) (tsz P e - 1) (by omega) (by omega)
    have := (Array.getElem?_eq_some_iff.1 e3).1
    have h2 : (cap - 1) * tsz P e + (tsz P e - 1) = cap * tsz P e - 1 := by
      have : cap * tsz P e = (cap - 1) * tsz P e + tsz P e := by
        rw [← Nat.succ_mul]; congr 1; omega
      omega
    omega
  obtain ⟨h2, s2, a2⟩ := h1.lay a1 (cells := ls.flatten) (z := tsz P e) (bs := ⟨blk, off, cap * tsz P e, tsz P e⟩) hblk rfl hz (by rw [hfl]; exact Nat.le_refl _) hsize hlies
  refine ⟨_, X ++ [⟨ls.flatten, .ro, tsz P e⟩], [.sl ⟨(H ++ X).length, 0, len, cap, true⟩], s1.trans s2, by rw [← List.append_assoc]; exact h2, by rw [← List.append_assoc]; exact a2, .inr ⟨(H ++ X).length, len, cap, ls.flatten, rfl, hlc, hc, hcm, ?_, hfl, fun i hi => ?_⟩, .cons ⟨some ⟨blk, off, none⟩, cap, rfl, hlc, Nat.le_refl _, fun _ => rfl, .inr ⟨_, updR_self, rfl, ?_, hz⟩⟩ .nil⟩
  · rw [← List.append_assoc]; simp
  · rw [← List.append_assoc]
    have hlt : i < ls.length := by omega
    have hg := List.getElem?_eq_getElem hlt
    rw [flat_at hlsz i _ hg]
    obtain ⟨cs, _, f2, _⟩ := g.at i _ hg
    exact typed_more _ _ _ _ _ f2
  · simp

theorem tile_parts {ρ : RM} {n : Nat} {H : AH} {cs : List Value} : ∀ {fs : List Field} {o z : Nat} {ls : List (List Sc)}, tiles P o fs z = true → z = cs.length → (∀ f ∈ fs, f.offset + tsz P f.type ≤ cs.length) →
    All2 (fun (f : Field) sc => typed P n H f.type sc ∧ VSs ρ sc ((cs.drop f.offset).take (tsz P f.type))) fs ls → VSs ρ ls.flatten (cs.drop o) ∧ ∀ (pre : List Sc), pre.length = o → ∀ f ∈ fs, typed P n H f.type (((pre ++ ls.flatten).drop f.offset).take (tsz P f.type))
  | [], o, z, _, ht, hz, _, .nil => by
    have := Nat.eq_of_beq_eq_true ht
    subst this; subst hz
    simp; exact .nil
  | f :: fs, o, z, _, ht, hz, hb, .cons (b := sc) (m := ls) h t => by
    simp only [tiles, Bool.and_eq_true] at ht
    have ho := Nat.eq_of_beq_eq_true ht.1
    have hf := hb f List.mem_cons_self
    obtain ⟨i1, i2⟩ := tile_parts ht.2 hz (fun g hg => hb g (List.mem_cons_of_mem _ hg)) t
    have hl : sc.length = tsz P f.type := by rw [h.2.length]; simp; omega
    refine ⟨?_, fun pre hp g hg => ?_⟩
    · have h2 := h.2
      rw [ho] at h2
      have e : cs.drop o = (cs.drop o).take (tsz P f.type) ++ cs.drop (o + tsz P f.type) := by
        rw [← List.drop_drop, List.take_append_drop]
      rw [e, List.flatten_cons]
      exact h2.append i1
    · rcases List.mem_cons.1 hg with rfl | hg
      · have e : ((pre ++ (sc :: ls).flatten).drop g.offset).take (tsz P g.type) = sc := by
          rw [List.flatten_cons, ho, ← hp, List.drop_left, List.take_append_of_le_length (by omega), List.take_of_length_le (by omega)]
        rw [e]; exact h.1
      · have := i2 (pre ++ sc) (by simp [hp, hl]) g hg
        rw [List.append_assoc] at this
        rw [List.flatten_cons]; exact this

theorem open_one : ∀ (n : Nat) (t : TypeId), openOk P n t = true → ∀ (fuel : Nat) (cs : List Value) (d : DataW H) (ps : List MemPlace), DataW.trod enc P W 0 (fun _ => true) true fuel t cs = some (d, ps) → Opens P W n t cs
  | 0, t, h, _, _, _, _, _ => by simp [openOk] at h
  | n + 1, t, h, 0, cs, d, ps, hd => by simp [DataW.trod] at hd
  | n + 1, t, h, fuel + 1, cs, d, ps, hd => by
    simp only [openOk] at h
    split at h
    · rename_i k hu
      intro ρ HH hH ha
      match cs with
      | [] => simp [DataW.trod, hu] at hd
      | _ :: _ :: _ => simp [DataW.trod, hu] at hd
      | [v] =>
        cases v <;> simp [DataW.trod, hu] at hd
        rename_i k' i
        obtain ⟨⟨rfl, hwf⟩, _⟩ := hd
        exact ⟨ρ, [], [.int k' i], Sub.refl _, by simpa using hH, by simpa using ha, by simp only [typed, hu]; exact ⟨_, rfl, hwf⟩, .cons rfl .nil⟩
    · rename_i hu
      intro ρ HH hH ha
      match cs with
      | [] => simp [DataW.trod, hu] at hd
      | _ :: _ :: _ => simp [DataW.trod, hu] at hd
      | [v] =>
        cases v <;> simp [DataW.trod, hu] at hd
        rename_i b
        exact ⟨ρ, [], [.bool b], Sub.refl _, by simpa using hH, by simpa using ha, by simp only [typed, hu]; exact ⟨_, rfl⟩, .cons rfl .nil⟩
    · rename_i hu
      intro ρ HH hH ha
      match cs with
      | [] => simp [DataW.trod, hu] at hd
      | _ :: _ :: _ => simp [DataW.trod, hu] at hd
      | [v] =>
        cases v <;> simp [DataW.trod, hu] at hd
        rename_i s
        exact ⟨ρ, [], [.str s], Sub.refl _, by simpa using hH, by simpa using ha, by simp only [typed, hu]; exact ⟨_, rfl, hd.1⟩, .cons rfl .nil⟩
    · rename_i e hu
      simp only [Bool.and_eq_true] at h
      have hz : 1 ≤ tsz P e := Nat.le_of_ble_eq_true h.1
      intro ρ HH hH ha
      have hnil : ∃ ρ' X l, Sub ρ ρ' ∧ RH ρ' (HH ++ X) W ∧ AllRo (HH ++ X) ∧ typed P (n + 1) (HH ++ X) t l ∧ VSs ρ' l [Value.slice none 0 0] :=
        ⟨ρ, [], [.sl ⟨0, 0, 0, 0, true⟩], Sub.refl _, by simpa using hH, by simpa using ha, by simp only [typed, hu, true_or], .cons ⟨none, 0, rfl, Nat.le_refl _, Nat.le_refl _, fun _ => rfl, .inl rfl⟩ .nil⟩
      match cs with
      | [] => simp [DataW.trod, hu] at hd
      | _ :: _ :: _ => simp [DataW.trod, hu] at hd
      | [v] =>
        cases v with
        | slice A len cap =>
          cases A with
          | none =>
            cases len with
            | succ => simp [DataW.trod, hu] at hd
            | zero =>
              cases cap with
              | succ => simp [DataW.trod, hu] at hd
              | zero => exact hnil
          | some a =>
            simp only [DataW.trod, hu] at hd
            split at hd
            · rename_i hc
              simp only [Option.bind_eq_some_iff, if_true, Option.map_eq_some_iff] at hd
              obtain ⟨elems, h1, rest, h2, _⟩ := hd
              have := open_slice (P := P) (W := W) (n := n) (e := e) hz (a := a) hc.2.1 hc.2.2 (fun i hi => by
                have : ∃ y, ((W.cells? 0 (a.add (i * P.cellsOf e)) (P.cellsOf e)).bind (DataW.trod enc P W 0 (fun _ => true) true fuel e)) = some y := by
                  rcases Nat.lt_or_ge i len with hlt | hge
                  · exact mapM_all h1 i (by simp [hlt])
                  · obtain ⟨y, hy⟩ := mapM_all h2 (i - len) (by simp; omega)
                    have : len + (i - len) = i := by omega
                    rw [this] at hy
                    exact ⟨y, hy⟩
                obtain ⟨⟨d', ps'⟩, hy⟩ := this
                simp only [Option.bind_eq_some_iff] at hy
                obtain ⟨cs, h3, h4⟩ := hy
                exact ⟨cs, h3, open_one n e h.2 fuel cs d' ps' h4⟩) hH ha
              obtain ⟨ρ', X, l, s1, h3, a3, ht, hv⟩ := this
              exact ⟨ρ', X, l, s1, h3, a3, by simp only [typed, hu]; exact ht, hv⟩
            · cases hd
        | _ => simp [DataW.trod, hu] at hd
    · rename_i fs hu
      simp only [Bool.and_eq_true, List.all_eq_true] at h
      have hlen : cs.length = P.cellsOf t ∧ ∃ xs, (fs.toList.mapM fun f => DataW.trod enc P W 0 (fun _ => true) true fuel f.type ((cs.drop f.offset).take (P.cellsOf f.type))) = some xs := by
        have : (if cs.length = P.cellsOf t then (fs.toList.mapM fun f => DataW.trod enc P W 0 (fun _ => true) true fuel f.type ((cs.drop f.offset).take (P.cellsOf f.type))).map fun xs => (DataW.agg (xs.map (·.1)), xs.flatMap (·.2)) else none) = some (d, ps) := by
          rw [← hd]
          simp only [DataW.trod, hu]
        split at this
        · rename_i hl
          simp only [Option.map_eq_some_iff] at this
          obtain ⟨xs, hx, _⟩ := this
          exact ⟨hl, xs, hx⟩
        · cases this
      obtain ⟨hl, xs, hx⟩ := hlen
      intro ρ HH hH ha
      obtain ⟨ρ', X, ls, s1, h1, a1, g⟩ := opens_list (n := n) (P := P) (W := W) (fs.toList.map fun f => (f.type, (cs.drop f.offset).take (P.cellsOf f.type))) (fun x hx' => by
        obtain ⟨f, hm, rfl⟩ := List.mem_map.1 hx'
        obtain ⟨⟨d', ps'⟩, hy⟩ := mapM_all hx f hm
        exact open_one n f.type (h.2 f hm) fuel _ d' ps' hy) ρ HH hH ha
      have g := g.mapl
      have hb : ∀ f ∈ fs.toList, f.offset + tsz P f.type ≤ cs.length := by
        have key : ∀ (l : List Field) (o : Nat), tiles P o l (tsz P t) = true → o ≤ tsz P t ∧ ∀ f ∈ l, f.offset + tsz P f.type ≤ tsz P t := by
          intro l
          induction l with
          | nil => intro o ho; have := Nat.eq_of_beq_eq_true ho; simp; omega
          | cons f l ih =>
            intro o ho
            simp only [tiles, Bool.and_eq_true] at ho
            have e1 := Nat.eq_of_beq_eq_true ho.1
            obtain ⟨i1, i2⟩ := ih _ ho.2
            refine ⟨by omega, fun g hg => ?_⟩
            rcases List.mem_cons.1 hg with rfl | hg
            · omega
            · exact i2 g hg
        intro f hf
        rw [hl]
        exact (key _ 0 h.1).2 f hf
      obtain ⟨k1, k2⟩ := tile_parts (P := P) (n := n) (H := HH ++ X) (ρ := ρ') h.1 hl.symm hb g
      rw [List.drop_zero] at k1
      refine ⟨ρ', X, ls.flatten, s1, h1, a1, ?_, k1⟩
      simp only [typed, hu]
      refine ⟨by rw [k1.length]; exact hl, fun f hf => ?_⟩
      have := k2 [] rfl f hf
      rwa [List.nil_append] at this
    · cases h
end
end Go.Abs
/- From the abstract interpreter's word on a law to the law's walk. -/
namespace Go.Abs
open Go.WideShapes Go.RowKit Go.ChangeShapes
set_option linter.unusedVariables false
set_option linter.unusedSimpArgs false

/-- An argument, told by its cells. -/
def pvT (P : Program) (t : TypeId) (l : List Sc) : PV := match P.underlying t with
  | some (.struct _) => .agg l
  | _ => match l with | s :: _ => .sc s | [] => .agg []
def pvTs (P : Program) : List TypeId → List (List Sc) → List PV
  | t :: ts, l :: ls => pvT P t l :: pvTs P ts ls
  | _, _ => []

section
variable {P : Program} {H : Type} {enc : TypeId × Value → H} {W : World} {base : Nat}

theorem pvT_VP {n : Nat} {HH : AH} {ρ : RM} {t : TypeId} {l : List Sc} {v : Value} (ht : typed P n HH t l) (hv : VSs ρ l v.cells.toList) (hw : Value.okWide P W .any base t v) : VP ρ (pvT P t l) v := by
  cases n with
  | zero => exact ht.elim
  | succ n =>
  simp only [typed] at ht
  unfold pvT
  split at ht
  · rename_i k hu
    obtain ⟨i, rfl, _⟩ := ht
    obtain ⟨j, rfl⟩ := okWide_int hu hw
    rw [hu]
    cases hv with | cons a _ => exact a
  · rename_i hu
    obtain ⟨i, rfl⟩ := ht
    obtain ⟨j, rfl⟩ := okWide_bool hu hw
    rw [hu]
    cases hv with | cons a _ => exact a
  · rename_i hu
    obtain ⟨i, rfl, _⟩ := ht
    obtain ⟨j, rfl⟩ := okWide_string hu hw
    rw [hu]
    cases hv with | cons a _ => exact a
  · rename_i e hu
    obtain ⟨a, len, cap, rfl⟩ := okWide_slice hu hw
    rw [hu]
    rcases ht with rfl | ⟨b, m, c, cells, rfl, _⟩
    · cases hv with | cons a _ => exact a
    · cases hv with | cons a _ => exact a
  · rename_i fs hu
    obtain ⟨cs, rfl, _⟩ := okWide_struct hu hw
    rw [hu]
    exact ⟨cs, rfl, hv⟩
  · exact ht.elim

theorem open_all {n : Nat} : ∀ (ts : List TypeId) (vs : List Value) (ds : List (DataW H)) (ps : List MemPlace), (∀ t ∈ ts, openOk P n t = true) → DataW.TrodAll enc P W 0 (fun _ => true) true ts vs ds ps → (∀ (j : Nat) t v, ts[j]? = some t → vs[j]? = some v → Value.okWide P W .any base t v) →
    ∀ (ρ : RM) (HH : AH), RH ρ HH W → AllRo HH → ∃ ρ' X ls, Sub ρ ρ' ∧ RH ρ' (HH ++ X) W ∧ AllRo (HH ++ X) ∧ All2 (fun t l => typed P n (HH ++ X) t l) ts ls ∧ All2 (VP ρ') (pvTs P ts ls) vs
  | [], [], [], ps, _, _, _, ρ, HH, hH, ha => ⟨ρ, [], [], Sub.refl _, by simpa using hH, by simpa using ha, .nil, .nil⟩
  | t :: ts, v :: vs, d :: ds, ps, ho, ht, hw, ρ, HH, hH, ha => by
    obtain ⟨p, q, ⟨fuel, h1⟩, h2, _⟩ := ht
    obtain ⟨ρ1, X1, l, s1, g1, a1, t1, v1⟩ := open_one n t (ho t List.mem_cons_self) fuel _ d p h1 ρ HH hH ha
    obtain ⟨ρ2, X2, ls, s2, g2, a2, t2, v2⟩ := open_all ts vs ds q (fun u hu => ho u (List.mem_cons_of_mem _ hu)) h2 (fun j u w h h' => hw (j + 1) u w (by simpa using h) (by simpa using h')) ρ1 (HH ++ X1) g1 a1
    refine ⟨ρ2, X1 ++ X2, l :: ls, s1.trans s2, by rw [← List.append_assoc]; exact g2, by rw [← List.append_assoc]; exact a2, ?_, ?_⟩
    · rw [← List.append_assoc]
      exact .cons (typed_more X2 _ _ _ _ t1) t2
    · exact .cons (pvT_VP t1 (v1.mono s2) (hw 0 t v rfl rfl)) v2
  | [], _ :: _, _, _, _, h, _, _, _, _, _ => by cases h
  | [], [], _ :: _, _, _, h, _, _, _, _, _ => by cases h
  | _ :: _, [], _, _, _, h, _, _, _, _, _ => by cases h
  | _ :: _, _ :: _, [], _, _, h, _, _, _, _, _ => by cases h

theorem back_all {W' : World} (hl : laidOutB P = true) (hb : Below W.heap.size W W') : ∀ (ts : List TypeId) (vs : List Value) (ds : List (DataW H)) (ps : List MemPlace), (∀ t ∈ ts, P.readableRec t = true ∧ t < P.types.size) → DataW.TrodAll enc P W 0 (fun _ => true) true ts vs ds ps →
    DataW.TrodAll enc P W' 0 (fun b => decide (b < W.heap.size)) true ts vs ds ps
  | [], [], [], ps, _, h => h
  | t :: ts, v :: vs, d :: ds, ps, ho, h => by
    obtain ⟨p, q, h1, h2, e⟩ := h
    obtain ⟨r1, r2⟩ := ho t List.mem_cons_self
    refine ⟨p, q, Below.trod hl r1 r2 h1 hb (fun x hx => ?_), back_all hl hb ts vs ds q (fun u hu => ho u (List.mem_cons_of_mem _ hu)) h2, e⟩
    obtain ⟨m, hm⟩ := h1
    exact DataW.trod_lt m _ _ _ hm x hx
  | [], _ :: _, _, _, _, h => by cases h
  | [], [], _ :: _, _, _, h => by cases h
  | _ :: _, [], _, _, _, h => by cases h
  | _ :: _, _ :: _, [], _, _, h => by cases h

/-- What a law's contract says: whatever it is given, true. -/
def LawPure (P : Program) (C : Oracle) (f : Nat) (ts : List TypeId) : Prop :=
  ∀ (H0 : AH) (ls : List (List Sc)), AllRo H0 → All2 (fun t l => typed P 8 H0 t l) ts ls → ∃ H', C (.fn f) (pvTs P ts ls) H0 = some ⟨1, [.sc (.bool true)], H'⟩

theorem law_walk {C : Oracle} (hC : SndFn P C) {f : Nat} {ts : List TypeId} (ho : (ts.all fun t => openOk P 8 t) = true) (hp : LawPure P C f ts) {args : Array Value} {ds : List (DataW H)} {ps : List MemPlace}
    (hA : DataW.TrodAll enc P W 0 (fun _ => true) true ts args.toList ds ps) (hval : ∀ (j : Nat) t v, ts[j]? = some t → args[j]? = some v → Value.okWide P W .any base t v) :
    Calls P f args W fun e W' => e = .returned (.bool true) ∧ Below W.heap.size W W' := by
  have h0 : RH (fun _ => none) [] W := ⟨fun b bs e => (by cases e), fun b k h => (by simp at h), fun b k h => (by simp at h), fun b b' k k' bs bs' h => (by simp at h)⟩
  obtain ⟨ρ, X, ls, _, hH, ha, ht, hv⟩ := open_all (n := 8) ts args.toList ds ps (List.all_eq_true.1 ho) hA (fun j t v h h' => hval j t v h (by simpa using h')) _ [] h0 (fun b k h => by simp at h)
  rw [List.nil_append] at hH ha ht
  obtain ⟨H', hr⟩ := hp X ls ha ht
  refine ((hC f _ X _ hr).2 ρ W args hH hv).mono fun e W' ⟨v, ρ', he, hres, hH', hE⟩ => ?_
  refine ⟨?_, hE.os, hE.tape, hE.output, hE.size, fun n hn => hE.keep n hn (fun ⟨b, k, bs, h1, h2, _⟩ => ?_) fun ⟨t, c, h, _⟩ => by cases h⟩
  · rcases hres with ⟨p, h1, h2⟩ | ⟨h1, _⟩
    · cases h1
      have : v = .bool true := h2
      rw [he, this]
    · exact absurd rfl h1
  · have := ha b k h1
    rw [h2] at this; cases this
/-- The walk of a law without arguments. -/
theorem law_walk0 {C : Oracle} (hC : SndFn P C) {f : Nat} (hp : ∃ H', C (.fn f) [] [] = some ⟨1, [.sc (.bool true)], H'⟩) {args : Array Value} (ha : args = #[]) :
    Calls P f args W fun e W' => e = .returned (.bool true) ∧ Below W.heap.size W W' := by
  have h0 : RH (fun _ => none) [] W := ⟨fun b bs e => (by cases e), fun b k h => (by simp at h), fun b k h => (by simp at h), fun b b' k k' bs bs' h => (by simp at h)⟩
  obtain ⟨H', hr⟩ := hp
  subst ha
  refine ((hC f _ [] _ hr).2 _ W _ h0 .nil).mono fun e W' ⟨v, ρ', he, hres, hH', hE⟩ => ?_
  refine ⟨?_, hE.os, hE.tape, hE.output, hE.size, fun n hn => hE.keep n hn (fun ⟨b, k, bs, h1, h2, _⟩ => by simp at h1) fun ⟨t, c, h, _⟩ => by cases h⟩
  rcases hres with ⟨p, h1, h2⟩ | ⟨h1, _⟩
  · cases h1
    have : v = .bool true := h2
    rw [he, this]
  · exact absurd rfl h1
end
end Go.Abs
/- Words for the contracts: whole-number slices in the abstract heap. -/
namespace Go.Abs
set_option linter.unusedVariables false
set_option linter.unusedSimpArgs false

/-- Whole numbers as cells. -/
abbrev ics (l : List Int) : List Sc := l.map (Sc.int .i64)

/-- A slice that reads as these whole numbers. -/
structure IS (H : AH) (s : Sl) (l : List Int) : Prop where
  n : s.n = l.length
  c : s.n ≤ s.c
  rd : l = [] ∨ ∃ cs, rdB H s.b = some cs ∧ ∀ (i : Nat) x, l[i]? = some x → cs[s.o + i]? = some (.int .i64 x)

/-- Heaps that agree on the blocks of the first. -/
structure Le (H H' : AH) : Prop where
  len : H.length ≤ H'.length
  get : ∀ b, b < H.length → H'[b]? = H[b]?
theorem Le.refl (H : AH) : Le H H := ⟨Nat.le_refl _, fun _ _ => rfl⟩
theorem Le.trans {a b c : AH} (h : Le a b) (k : Le b c) : Le a c := ⟨Nat.le_trans h.len k.len, fun i hi => (k.get i (Nat.lt_of_lt_of_le hi h.len)).trans (h.get i hi)⟩
theorem Le.app (H X : AH) : Le H (H ++ X) := ⟨by simp, fun b h => List.getElem?_append_left h⟩
theorem rdB_lt {H : AH} {b : Nat} {cs : List Sc} (h : rdB H b = some cs) : b < H.length := by
  unfold rdB at h
  rcases Nat.lt_or_ge b H.length with hl | hl
  · exact hl
  · rw [List.getElem?_eq_none hl] at h; cases h
theorem Le.rdB {H H' : AH} (h : Le H H') {b : Nat} {cs : List Sc} (hr : rdB H b = some cs) : rdB H' b = some cs := by
  have := h.get b (rdB_lt hr)
  unfold Go.Abs.rdB at hr ⊢
  rw [this]; exact hr
theorem IS.le {H H' : AH} (h : Le H H') {s : Sl} {l : List Int} (hs : IS H s l) : IS H' s l :=
  ⟨hs.1, hs.2, hs.3.imp id fun ⟨cs, h1, h2⟩ => ⟨cs, h.rdB h1, h2⟩⟩

theorem ixA_nat {s : Sl} {i z : Nat} (h : i < s.n) : ixA s (i : Int) z = some (s.o + i * z) := by
  unfold ixA
  rw [if_pos ⟨by omega, by omega⟩]
  simp
theorem intAt_get {l : List Sc} {i : Nat} {k : IntKind} {x : Int} (h : l[i]? = some (.int k x)) : intAt k l i = some x := by
  unfold intAt; rw [h]; simp

/-- A number is loaded. -/
theorem IS.ld {H : AH} {s : Sl} {l : List Int} (h : IS H s l) {i : Nat} {x : Int} (hi : l[i]? = some x) : ∃ cs, ixA s (i : Int) 1 = some (s.o + i) ∧ rdB H s.b = some cs ∧ intAt .i64 cs (s.o + i) = some x := by
  obtain ⟨hn, _, rfl | ⟨cs, h1, h2⟩⟩ := h
  · simp at hi
  · have := (List.getElem?_eq_some_iff.1 hi).1
    exact ⟨cs, by rw [ixA_nat (by omega), Nat.mul_one], h1, intAt_get (h2 i x hi)⟩
theorem IS.ldk {α : Type} {H : AH} {s : Sl} {l : List Int} (h : IS H s l) {i : Nat} (hi : i < l.length) (k : Int → Option α) : ((ixA s (i : Int) 1).bind fun o => (rdB H s.b).bind fun c => (intAt .i64 c o).bind k) = k l[i] := by
  obtain ⟨cs, h1, h2, h3⟩ := h.ld (List.getElem?_eq_getElem hi)
  simp only [h1, h2, h3, Option.bind_some]

theorem rng_get {cs : List Sc} {o : Nat} {l : List Int} (h : ∀ i x, l[i]? = some x → cs[o + i]? = some (.int .i64 x)) : (cs.drop o).take l.length = ics l := by
  refine List.ext_getElem? fun i => ?_
  rw [List.getElem?_take]
  split
  · rename_i hi
    rw [List.getElem?_drop, h i l[i] (List.getElem?_eq_getElem hi)]
    simp [hi]
  · rename_i hi
    simp at hi
    simp [hi]
theorem IS.rng {H : AH} {s : Sl} {l : List Int} (h : IS H s l) : rng H s.b s.o (s.n * 1) = some (ics l) := by
  obtain ⟨hn, _, h2⟩ := h
  unfold Go.Abs.rng
  rw [Nat.mul_one]
  split
  · rename_i h0
    have : l = [] := List.length_eq_zero_iff.1 (by omega)
    subst this; rfl
  · rename_i h0
    rcases h2 with rfl | ⟨cs, h1, h2⟩
    · simp at hn; omega
    · rw [h1]
      simp only [Option.bind_some]
      have hl : 0 < l.length := by omega
      have := h2 (l.length - 1) _ (List.getElem?_eq_getElem (by omega))
      have := (List.getElem?_eq_some_iff.1 this).1
      rw [if_pos (by omega), hn, rng_get h2]

/-- The first of a row. -/
theorem slB_take {s : Sl} {i : Nat} (hi : i ≤ s.c) (z : Nat) : slB s none (some (i : Int)) none z = some ⟨s.b, s.o, i, s.c, s.x⟩ := by
  unfold slB
  simp only [Option.bind_some, Option.getD_some, Option.getD_none]
  rw [if_pos ⟨by omega, by omega, by omega, by omega⟩]
  simp
theorem IS.take {H : AH} {s : Sl} {l : List Int} (h : IS H s l) {i : Nat} (hi : i ≤ l.length) : IS H ⟨s.b, s.o, i, s.c, s.x⟩ (l.take i) := by
  refine ⟨by simp; omega, by have := h.n; have := h.c; show i ≤ s.c; omega, ?_⟩
  rcases h.rd with rfl | ⟨cs, h1, h2⟩
  · exact .inl (by simp)
  · refine .inr ⟨cs, h1, fun j x hj => h2 j x ?_⟩
    rw [List.getElem?_take] at hj
    split at hj
    · exact hj
    · cases hj
theorem IS.nil (H : AH) (b o c : Nat) (x : Bool) : IS H ⟨b, o, 0, c, x⟩ [] := ⟨rfl, Nat.zero_le _, .inl rfl⟩

theorem wrap_id {x : Int} (h1 : -9223372036854775808 ≤ x) (h2 : x ≤ 9223372036854775807) : IntKind.wrap .i64 x = x := by
  have e : IntKind.wrap .i64 x = (if x % 18446744073709551616 ≥ 9223372036854775808 then x % 18446744073709551616 - 18446744073709551616 else x % 18446744073709551616) := by
    unfold IntKind.wrap
    simp only [IntKind.bits, IntKind.signed, Bool.true_and, decide_eq_true_eq]
    simp
  rw [e]
  split <;> omega

/-- Whole numbers in a block of their own, which may be written. -/
structure Own (n0 : Nat) (H : AH) (s : Sl) (l : List Int) : Prop where
  o : s.o = 0
  n : s.n = l.length
  c : s.c = l.length
  lo : l = [] ∨ n0 ≤ s.b
  blk : (l = [] ∧ s.x = true) ∨ (l ≠ [] ∧ H[s.b]? = some ⟨ics l, .rw, 1⟩)
theorem Own.is {n0 : Nat} {H : AH} {s : Sl} {l : List Int} (h : Own n0 H s l) : IS H s l := by
  refine ⟨h.n, by rw [h.n, h.c]; exact Nat.le_refl _, ?_⟩
  rcases h.blk with ⟨rfl, _⟩ | ⟨_, hb⟩
  · exact .inl rfl
  · refine .inr ⟨ics l, by unfold rdB; rw [hb]; rfl, fun i x hi => ?_⟩
    rw [h.o, Nat.zero_add]; simp [hi]
theorem Own.mono {n0 : Nat} {H H' : AH} {s : Sl} {l : List Int} (h : Own n0 H s l) (hb : l ≠ [] → H'[s.b]? = H[s.b]?) : Own n0 H' s l :=
  ⟨h.o, h.n, h.c, h.lo, h.blk.imp id fun ⟨h1, h2⟩ => ⟨h1, (hb h1).trans h2⟩⟩
theorem Own.lt {n0 : Nat} {H : AH} {s : Sl} {l : List Int} (h : Own n0 H s l) (hl : l ≠ []) : s.b < H.length := by
  rcases h.blk with ⟨h1, _⟩ | ⟨_, h2⟩
  · exact absurd h1 hl
  · exact (List.getElem?_eq_some_iff.1 h2).1
theorem Own.le {n0 : Nat} {H H' : AH} {s : Sl} {l : List Int} (h : Own n0 H s l) (hb : Le H H') : Own n0 H' s l := h.mono fun hl => hb.get _ (h.lt hl)
theorem Own.low {n0 n1 : Nat} {H : AH} {s : Sl} {l : List Int} (h : Own n0 H s l) (hn : n1 ≤ n0) : Own n1 H s l := ⟨h.o, h.n, h.c, h.lo.imp id fun h => Nat.le_trans hn h, h.blk⟩
theorem Own.nil (n0 : Nat) (H : AH) (b : Nat) : Own n0 H ⟨b, 0, 0, 0, true⟩ [] := ⟨rfl, rfl, rfl, .inl rfl, .inl ⟨rfl, rfl⟩⟩
theorem Own.new {n0 : Nat} {H : AH} {l : List Int} {x : Bool} (hn : n0 ≤ H.length) (hx : l = [] → x = true) : Own n0 (H ++ [⟨ics l, .rw, 1⟩]) ⟨H.length, 0, l.length, l.length, x⟩ l :=
  ⟨rfl, rfl, rfl, .inr hn, by
    by_cases h : l = []
    · exact .inl ⟨h, hx h⟩
    · exact .inr ⟨h, by simp⟩⟩

theorem most_ok {n : Nat} (h : n ≤ 134217728) : n * 8 ≤ most := by unfold most; omega

/-- A list grows onto an empty one that holds nothing. -/
theorem app_nil {H : AH} {b : Nat} {l : List Int} (hl : l.length ≤ 134217728) : appB H 1 8 ⟨b, 0, 0, 0, true⟩ (ics l) l.length =
    if l = [] then some (⟨b, 0, 0, 0, true⟩, H) else some (⟨H.length, 0, l.length, l.length, false⟩, H ++ [⟨ics l, .rw, 1⟩]) := by
  unfold appB
  by_cases h : l = []
  · subst h; simp [putR]
  · have h0 : l.length ≠ 0 := fun e => h (List.length_eq_zero_iff.1 e)
    rw [if_neg h, if_neg (by simp; exact h), if_pos ⟨by omega, by omega, by simpa using most_ok hl⟩]
    simp [rng]

/-- 'make' of whole numbers. -/
theorem mk_ints {H : AH} {n : Nat} (hn : n ≤ 134217728) : mkB H 1 8 [.int .i64 0] (n : Int) (n : Int) = some (⟨H.length, 0, n, n, true⟩, H ++ [⟨ics (List.replicate n 0), .rw, 1⟩]) := by
  unfold mkB
  have := most_ok hn
  rw [if_pos ⟨by omega, by omega, by omega, by omega, by omega⟩]
  simp [List.map_replicate, List.flatten_replicate_singleton]

theorem setAll_one (cs : List Sc) (o : Nat) (v : Sc) : setAll cs o [v] = cs.set o v := rfl
theorem putR_one {H : AH} {b i : Nat} {cs : List Sc} {z : Nat} {v : Sc} (h : H[b]? = some ⟨cs, .rw, z⟩) (hi : i < cs.length) : putR H b i [v] = some (H.set b ⟨cs.set i v, .rw, z⟩) := by
  unfold putR
  simp only [h, Option.bind_some]
  rw [if_pos (by simp; omega)]
  rfl
end Go.Abs
