/- Part of the proof of FnExactMakeCertificate: that for every input the law answers true and leaves what it reads as it was. Conditions: none beyond the given statement. -/
import Derived.Test.YtabkpkhjpfjpeaaGreatLabTab
import Derived.KernelRfl
set_option linter.all false
/- The equations of the functions: what the abstract interpreter makes of their code. -/
namespace Go.Abs
set_option maxRecDepth 100000
set_option linter.unusedVariables false
/- loop.example/g03211/spec.l17Keep -/
theorem e_sl17Keep_0 (C : Oracle) (x0b x0o : Nat) (x2 x3 : Int) (x9 x17 : Sl) (x18 x19 : Int) (H : AH) : (procM P T C (.loop F.sl17Keep 0) [.sc (.hp x0b x0o), .sc (.int .i64 x2), .sc (.int .i64 x3), .sc (.sl x9), .sc (.sl x17), .sc (.int .i64 x18), .sc (.int .i64 x19)] H).run =
  cond (decide (x19 < x18))
  ((ixA x17 x19 3).bind fun o7 =>
   (rdB H x17.b).bind fun c8 =>
   (slAt c8 o7).bind fun s9 =>
   (slAt c8 (o7 + 1)).bind fun s10 =>
   (slAt c8 (o7 + 1 + 1)).bind fun s11 =>
   (((rdB H x0b).bind fun c12 =>
   (slAt c12 (x0o + 1)).bind fun s13 =>
   (ixA s13 x19 1).bind fun o14 =>
   (rdB H s13.b).bind fun c15 =>
   (boolAt c15 o14).bind fun b16 =>
   cond (!b16)
   (cond (x19 != x2)
    (some ⟨0, [.sc (.bool (x19 != x3))], H⟩)
    (some ⟨0, [.sc (.bool false)], H⟩))
   (some ⟨0, [.sc (.bool false)], H⟩) : Option Out)).bind fun r17 =>
   cond (Nat.beq r17.e 0)
   ((nthP r17.vs 0).bind fun p18 =>
    p18.sc?.bind fun c19 =>
    (boolAt [c19] 0).bind fun b20 =>
    cond b20
    ((rng r17.H s9.b s9.o (s9.n * 1)).bind fun l21 =>
     (appB r17.H 1 8 x9 l21 s9.n).bind fun m22 =>
     C (.loop F.sl17Keep 0) [.sc (.hp x0b x0o), .sc (.int .i64 x2), .sc (.int .i64 x3), .sc (.sl m22.1), .sc (.sl x17), .sc (.int .i64 x18), .sc (.int .i64 (IntKind.wrap .i64 (x19 + 1)))] m22.2)
    (C (.loop F.sl17Keep 0) [.sc (.hp x0b x0o), .sc (.int .i64 x2), .sc (.int .i64 x3), .sc (.sl x9), .sc (.sl x17), .sc (.int .i64 x18), .sc (.int .i64 (IntKind.wrap .i64 (x19 + 1)))] r17.H))
   (none))
  (some ⟨2, [.sc (.sl x9)], H⟩) := by kernel_rfl
theorem e_sl17Keep (C : Oracle) (a0b a0o : Nat) (a1 : Sl) (a2 a3 : Int) (H : AH) : (procM P T C (.fn F.sl17Keep) [.sc (.hp a0b a0o), .sc (.sl a1), .sc (.int .i64 a2), .sc (.int .i64 a3)] H).run =
  (C (.fn F.sl05Ints) [.sc (.sl a1)] H).bind fun r1 =>
  (oneP r1.vs).bind fun p2 =>
  p2.sc?.bind fun c3 =>
  (slAt [c3] 0).bind fun s4 =>
  (rdB r1.H a0b).bind fun c5 =>
  (slAt c5 (a0o + 0)).bind fun s6 =>
  (C (.loop F.sl17Keep 0) [.sc (.hp a0b a0o), .sc (.int .i64 a2), .sc (.int .i64 a3), .sc (.sl s4), .sc (.sl s6), .sc (.int .i64 (s6.n : Int)), .sc (.int .i64 0)] r1.H).bind fun r23 =>
  cond (Nat.beq r23.e 2)
  ((nthP r23.vs 0).bind fun p24 =>
   p24.sc?.bind fun c25 =>
   (slAt [c25] 0).bind fun s26 =>
   some ⟨1, [.sc (.sl s26)], r23.H⟩)
  (none) := by kernel_rfl
/- (*loop.example/g03211/impl.orderState).resultLabels -/
theorem e_x__impl_orderState__resultLabels_0 (C : Oracle) (x0b x0o : Nat) (x1 x2 : Int) (x7 x29 : Sl) (x30 x31 : Int) (H : AH) : (procM P T C (.loop F.x__impl_orderState__resultLabels 0) [.sc (.hp x0b x0o), .sc (.int .i64 x1), .sc (.int .i64 x2), .sc (.sl x7), .sc (.sl x29), .sc (.int .i64 x30), .sc (.int .i64 x31)] H).run =
  cond (decide (x31 < x30))
  ((ixA x29 x31 1).bind fun o15 =>
   (rdB H x29.b).bind fun c16 =>
   (intAt .i64 c16 o15).bind fun n17 =>
   (rdB H x0b).bind fun c18 =>
   (slAt c18 (x0o + 100)).bind fun s19 =>
   (C (.fn F.ihasInt) [.sc (.sl s19), .sc (.int .i64 n17)] H).bind fun r20 =>
   (oneP r20.vs).bind fun p21 =>
   p21.sc?.bind fun c22 =>
   (boolAt [c22] 0).bind fun b23 =>
   (rdB r20.H x0b).bind fun c24 =>
   (slAt c24 (x0o + 101)).bind fun s25 =>
   (C (.loop F.x__impl_orderState__resultLabels 1) [.sc (.int .i64 x1), .sc (.int .i64 x2), .sc (.int .i64 n17), .sc (.bool b23), .sc (.sl s25), .sc (.int .i64 (s25.n : Int)), .sc (.int .i64 0)] r20.H).bind fun r34 =>
   cond (Nat.beq r34.e 4)
   ((nthP r34.vs 0).bind fun p35 =>
    p35.sc?.bind fun c36 =>
    (boolAt [c36] 0).bind fun b37 =>
    cond b37
    ((newB r34.H 1 [.int .i64 n17]).bind fun h38 =>
     (rng h38.2 h38.1 0 (1 * 1)).bind fun l39 =>
     (appB h38.2 1 8 x7 l39 1).bind fun m40 =>
     C (.loop F.x__impl_orderState__resultLabels 0) [.sc (.hp x0b x0o), .sc (.int .i64 x1), .sc (.int .i64 x2), .sc (.sl m40.1), .sc (.sl x29), .sc (.int .i64 x30), .sc (.int .i64 (IntKind.wrap .i64 (x31 + 1)))] m40.2)
    (C (.loop F.x__impl_orderState__resultLabels 0) [.sc (.hp x0b x0o), .sc (.int .i64 x1), .sc (.int .i64 x2), .sc (.sl x7), .sc (.sl x29), .sc (.int .i64 x30), .sc (.int .i64 (IntKind.wrap .i64 (x31 + 1)))] r34.H))
   (none))
  (some ⟨2, [.sc (.sl x7)], H⟩) := by kernel_rfl
theorem e_x__impl_orderState__resultLabels_1 (C : Oracle) (x1 x2 x9 : Int) (x10 : Bool) (x44 : Sl) (x45 x46 : Int) (H : AH) : (procM P T C (.loop F.x__impl_orderState__resultLabels 1) [.sc (.int .i64 x1), .sc (.int .i64 x2), .sc (.int .i64 x9), .sc (.bool x10), .sc (.sl x44), .sc (.int .i64 x45), .sc (.int .i64 x46)] H).run =
  cond (decide (x46 < x45))
  ((ixA x44 x46 2).bind fun o26 =>
   (rdB H x44.b).bind fun c27 =>
   (intAt .i64 c27 o26).bind fun n28 =>
   (slAt c27 (o26 + 1)).bind fun s29 =>
   cond (x46 != x1)
   (cond (x46 != x2)
    ((C (.fn F.ihasInt) [.sc (.sl s29), .sc (.int .i64 x9)] H).bind fun r30 =>
     (oneP r30.vs).bind fun p31 =>
     p31.sc?.bind fun c32 =>
     (boolAt [c32] 0).bind fun b33 =>
     cond b33
     (C (.loop F.x__impl_orderState__resultLabels 1) [.sc (.int .i64 x1), .sc (.int .i64 x2), .sc (.int .i64 x9), .sc (.bool true), .sc (.sl x44), .sc (.int .i64 x45), .sc (.int .i64 (IntKind.wrap .i64 (x46 + 1)))] r30.H)
     (C (.loop F.x__impl_orderState__resultLabels 1) [.sc (.int .i64 x1), .sc (.int .i64 x2), .sc (.int .i64 x9), .sc (.bool x10), .sc (.sl x44), .sc (.int .i64 x45), .sc (.int .i64 (IntKind.wrap .i64 (x46 + 1)))] r30.H))
    (C (.loop F.x__impl_orderState__resultLabels 1) [.sc (.int .i64 x1), .sc (.int .i64 x2), .sc (.int .i64 x9), .sc (.bool x10), .sc (.sl x44), .sc (.int .i64 x45), .sc (.int .i64 (IntKind.wrap .i64 (x46 + 1)))] H))
   (C (.loop F.x__impl_orderState__resultLabels 1) [.sc (.int .i64 x1), .sc (.int .i64 x2), .sc (.int .i64 x9), .sc (.bool x10), .sc (.sl x44), .sc (.int .i64 x45), .sc (.int .i64 (IntKind.wrap .i64 (x46 + 1)))] H))
  (some ⟨4, [.sc (.bool x10)], H⟩) := by kernel_rfl
theorem e_x__impl_orderState__resultLabels (C : Oracle) (a0b a0o : Nat) (a1 a2 : Int) (H : AH) : (procM P T C (.fn F.x__impl_orderState__resultLabels) [.sc (.hp a0b a0o), .sc (.int .i64 a1), .sc (.int .i64 a2)] H).run =
  (rdB H a0b).bind fun c1 =>
  (slAt c1 (a0o + 101)).bind fun s2 =>
  (ixA s2 a1 2).bind fun o3 =>
  (rdB H s2.b).bind fun c4 =>
  (slAt c4 (o3 + 1)).bind fun s5 =>
  (rdB H a0b).bind fun c6 =>
  (slAt c6 (a0o + 101)).bind fun s7 =>
  (ixA s7 a2 2).bind fun o8 =>
  (rdB H s7.b).bind fun c9 =>
  (slAt c9 (o8 + 1)).bind fun s10 =>
  (C (.fn F.ijoinLabels) [.sc (.sl s5), .sc (.sl s10)] H).bind fun r11 =>
  (oneP r11.vs).bind fun p12 =>
  p12.sc?.bind fun c13 =>
  (slAt [c13] 0).bind fun s14 =>
  (C (.loop F.x__impl_orderState__resultLabels 0) [.sc (.hp a0b a0o), .sc (.int .i64 a1), .sc (.int .i64 a2), .sc (.sl ⟨0, 0, 0, 0, true⟩), .sc (.sl s14), .sc (.int .i64 (s14.n : Int)), .sc (.int .i64 0)] r11.H).bind fun r41 =>
  cond (Nat.beq r41.e 2)
  ((nthP r41.vs 0).bind fun p42 =>
   p42.sc?.bind fun c43 =>
   (slAt [c43] 0).bind fun s44 =>
   some ⟨1, [.sc (.sl s44)], r41.H⟩)
  (none) := by kernel_rfl
/- loop.example/g03211/spec.l02Width -/
theorem e_sl02Width (C : Oracle) (a0_0 a0_1 a0_2 : Int) (H : AH) : (procM P T C (.fn F.sl02Width) [.agg [.int .i64 a0_0, .int .i64 a0_1, .int .i64 a0_2]] H).run =
  cond (a0_0 == 7)
  (some ⟨1, [.sc (.int .i64 a0_2)], H⟩)
  (cond (a0_0 == 8)
   (some ⟨1, [.sc (.int .i64 4)], H⟩)
   (some ⟨1, [.sc (.int .i64 1)], H⟩)) := by kernel_rfl
/- loop.example/g03211/spec.l02Top -/
theorem e_sl02Top (C : Oracle) (a0_0 a0_1 a0_2 : Int) (H : AH) : (procM P T C (.fn F.sl02Top) [.agg [.int .i64 a0_0, .int .i64 a0_1, .int .i64 a0_2]] H).run =
  cond (a0_0 == 1)
  (some ⟨1, [.sc (.int .i64 1)], H⟩)
  (((cond (a0_0 == 3)
   (some ⟨0, [.sc (.bool (a0_0 == 3))], H⟩)
   (cond (a0_0 == 4)
    (some ⟨0, [.sc (.bool (a0_0 == 4))], H⟩)
    (some ⟨0, [.sc (.bool (a0_0 == 5))], H⟩)) : Option Out)).bind fun r1 =>
   cond (Nat.beq r1.e 0)
   ((nthP r1.vs 0).bind fun p2 =>
    p2.sc?.bind fun c3 =>
    (boolAt [c3] 0).bind fun b4 =>
    cond b4
    (some ⟨1, [.sc (.int .i64 a0_1)], r1.H⟩)
    (cond (a0_0 == 6)
     (cond (decide (a0_2 < 0))
      (none)
      (some ⟨1, [.sc (.int .i64 (IntKind.wrap .i64 ((shlL .i64 1 a0_2) - 1)))], r1.H⟩))
     (some ⟨1, [.sc (.int .i64 (IntKind.wrap .i64 (a0_1 - 1)))], r1.H⟩)))
   (none)) := by kernel_rfl
/- loop.example/g03211/spec.l05Index -/
theorem e_sl05Index_0 (C : Oracle) (x0 : Sl) (x1 : Int) (x5 : Sl) (x6 : Int) (H : AH) : (procM P T C (.loop F.sl05Index 0) [.sc (.sl x0), .sc (.int .i64 x1), .sc (.sl x5), .sc (.int .i64 x6)] H).run =
  cond (decide (x6 ≥ 0))
  ((ixA x0 x6 1).bind fun o2 =>
   (rdB H x0.b).bind fun c3 =>
   (intAt .i64 c3 o2).bind fun n4 =>
   cond (n4 == 0)
   (none)
   ((ixA x5 x6 1).bind fun o5 =>
    (putR H x5.b o5 [.int .i64 (Int.tmod x1 n4)]).bind fun H6 =>
    (ixA x0 x6 1).bind fun o7 =>
    (rdB H6 x0.b).bind fun c8 =>
    (intAt .i64 c8 o7).bind fun n9 =>
    cond (n9 == 0)
    (none)
    (C (.loop F.sl05Index 0) [.sc (.sl x0), .sc (.int .i64 (IntKind.wrap .i64 (Int.tdiv x1 n9))), .sc (.sl x5), .sc (.int .i64 (IntKind.wrap .i64 (x6 - 1)))] H6)))
  (some ⟨2, [], H⟩) := by kernel_rfl
theorem e_sl05Index (C : Oracle) (a0 : Sl) (a1 : Int) (H : AH) : (procM P T C (.fn F.sl05Index) [.sc (.sl a0), .sc (.int .i64 a1)] H).run =
  (mkB H 1 8 [.int .i64 0] (a0.n : Int) (a0.n : Int)).bind fun m1 =>
  (C (.loop F.sl05Index 0) [.sc (.sl a0), .sc (.int .i64 a1), .sc (.sl m1.1), .sc (.int .i64 (IntKind.wrap .i64 ((a0.n : Int) - 1)))] m1.2).bind fun r10 =>
  cond (Nat.beq r10.e 2)
  (some ⟨1, [.sc (.sl m1.1)], r10.H⟩)
  (none) := by kernel_rfl
/- loop.example/g03211/spec.l05Get -/
theorem e_sl05Get (C : Oracle) (a0_0 a0_1 a0_2 : Int) (a1_0 a1_1 a1_2 : Sl) (a2 : Int) (H : AH) : (procM P T C (.fn F.sl05Get) [.agg [.int .i64 a0_0, .int .i64 a0_1, .int .i64 a0_2], .agg [.sl a1_0, .sl a1_1, .sl a1_2], .sc (.int .i64 a2)] H).run =
  (C (.fn F.sl02Width) [.agg [.int .i64 a0_0, .int .i64 a0_1, .int .i64 a0_2]] H).bind fun r1 =>
  (oneP r1.vs).bind fun p2 =>
  p2.sc?.bind fun c3 =>
  (intAt .i64 [c3] 0).bind fun n4 =>
  (newB r1.H 1 []).bind fun h5 =>
  (slB a1_2 (some (IntKind.wrap .i64 (a2 * n4))) (some (IntKind.wrap .i64 ((IntKind.wrap .i64 (a2 * n4)) + n4))) none 1).bind fun s6 =>
  (rng h5.2 s6.b s6.o (s6.n * 1)).bind fun l7 =>
  (appB h5.2 1 8 ⟨h5.1, 0, 0, 0, true⟩ l7 s6.n).bind fun m8 =>
  some ⟨1, [.sc (.sl m8.1)], m8.2⟩ := by kernel_rfl
/- loop.example/g03211/impl.rawWidth -/
theorem e_irawWidth (C : Oracle) (a0_0 a0_1 a0_2 : Int) (H : AH) : (procM P T C (.fn F.irawWidth) [.agg [.int .i64 a0_0, .int .i64 a0_1, .int .i64 a0_2]] H).run =
  cond (a0_0 == 7)
  (some ⟨1, [.sc (.int .i64 a0_2)], H⟩)
  (cond (a0_0 == 8)
   (some ⟨1, [.sc (.int .i64 4)], H⟩)
   (some ⟨1, [.sc (.int .i64 1)], H⟩)) := by kernel_rfl
/- loop.example/g03211/impl.inRing -/
theorem e_iinRing_0 (C : Oracle) (x5 : Int) (x10 : Sl) (x11 x12 : Int) (H : AH) : (procM P T C (.loop F.iinRing 0) [.sc (.int .i64 x5), .sc (.sl x10), .sc (.int .i64 x11), .sc (.int .i64 x12)] H).run =
  cond (decide (x12 < x11))
  ((ixA x10 x12 1).bind fun o5 =>
   (rdB H x10.b).bind fun c6 =>
   (intAt .i64 c6 o5).bind fun n7 =>
   cond (decide (n7 < 0))
   (some ⟨1, [.sc (.bool false)], H⟩)
   (cond (decide (n7 > x5))
    (some ⟨1, [.sc (.bool false)], H⟩)
    (C (.loop F.iinRing 0) [.sc (.int .i64 x5), .sc (.sl x10), .sc (.int .i64 x11), .sc (.int .i64 (IntKind.wrap .i64 (x12 + 1)))] H)))
  (some ⟨2, [], H⟩) := by kernel_rfl
theorem e_iinRing (C : Oracle) (a0_0 a0_1 a0_2 : Int) (a1 : Sl) (H : AH) : (procM P T C (.fn F.iinRing) [.agg [.int .i64 a0_0, .int .i64 a0_1, .int .i64 a0_2], .sc (.sl a1)] H).run =
  (C (.fn F.irawTop) [.agg [.int .i64 a0_0, .int .i64 a0_1, .int .i64 a0_2]] H).bind fun r1 =>
  (oneP r1.vs).bind fun p2 =>
  p2.sc?.bind fun c3 =>
  (intAt .i64 [c3] 0).bind fun n4 =>
  (C (.loop F.iinRing 0) [.sc (.int .i64 n4), .sc (.sl a1), .sc (.int .i64 (a1.n : Int)), .sc (.int .i64 0)] r1.H).bind fun r8 =>
  cond (Nat.beq r8.e 1)
  ((nthP r8.vs 0).bind fun p9 =>
   p9.sc?.bind fun c10 =>
   (boolAt [c10] 0).bind fun b11 =>
   some ⟨1, [.sc (.bool b11)], r8.H⟩)
  (cond (Nat.beq r8.e 2)
   (some ⟨1, [.sc (.bool true)], r8.H⟩)
   (none)) := by kernel_rfl
/- loop.example/g03211/impl.stridesOf -/
theorem e_istridesOf_0 (C : Oracle) (x1 x5 : Sl) (x6 x7 : Int) (y2_0 y2_1 y2_2 : Sl) (H : AH) : (procM P T C (.loop F.istridesOf 0) [.sc (.sl x1), .sc (.sl x5), .sc (.int .i64 x6), .sc (.int .i64 x7), .agg [.sl y2_0, .sl y2_1, .sl y2_2]] H).run =
  cond (decide (x7 ≥ 0))
  ((C (.loop F.istridesOf 1) [.sc (.sl x5), .sc (.int .i64 x6), .sc (.int .i64 x7), .sc (.sl x1), .sc (.int .i64 (x1.n : Int)), .sc (.int .i64 0), .agg [.sl y2_0, .sl y2_1, .sl y2_2]] H).bind fun r10 =>
   cond (Nat.beq r10.e 4)
   ((ixA y2_1 x7 1).bind fun o11 =>
    (rdB r10.H y2_1.b).bind fun c12 =>
    (intAt .i64 c12 o11).bind fun n13 =>
    C (.loop F.istridesOf 0) [.sc (.sl x1), .sc (.sl x5), .sc (.int .i64 (IntKind.wrap .i64 (x6 * n13))), .sc (.int .i64 (IntKind.wrap .i64 (x7 - 1))), .agg [.sl y2_0, .sl y2_1, .sl y2_2]] r10.H)
   (none))
  (some ⟨2, [], H⟩) := by kernel_rfl
theorem e_istridesOf_1 (C : Oracle) (x5 : Sl) (x6 x7 : Int) (x21 : Sl) (x22 x23 : Int) (y2_0 y2_1 y2_2 : Sl) (H : AH) : (procM P T C (.loop F.istridesOf 1) [.sc (.sl x5), .sc (.int .i64 x6), .sc (.int .i64 x7), .sc (.sl x21), .sc (.int .i64 x22), .sc (.int .i64 x23), .agg [.sl y2_0, .sl y2_1, .sl y2_2]] H).run =
  cond (decide (x23 < x22))
  ((ixA x21 x23 1).bind fun o2 =>
   (rdB H x21.b).bind fun c3 =>
   (intAt .i64 c3 o2).bind fun n4 =>
   (ixA y2_0 x7 1).bind fun o5 =>
   (rdB H y2_0.b).bind fun c6 =>
   (intAt .i64 c6 o5).bind fun n7 =>
   cond (n4 == n7)
   ((ixA x5 x23 1).bind fun o8 =>
    (putR H x5.b o8 [.int .i64 x6]).bind fun H9 =>
    C (.loop F.istridesOf 1) [.sc (.sl x5), .sc (.int .i64 x6), .sc (.int .i64 x7), .sc (.sl x21), .sc (.int .i64 x22), .sc (.int .i64 (IntKind.wrap .i64 (x23 + 1))), .agg [.sl y2_0, .sl y2_1, .sl y2_2]] H9)
   (C (.loop F.istridesOf 1) [.sc (.sl x5), .sc (.int .i64 x6), .sc (.int .i64 x7), .sc (.sl x21), .sc (.int .i64 x22), .sc (.int .i64 (IntKind.wrap .i64 (x23 + 1))), .agg [.sl y2_0, .sl y2_1, .sl y2_2]] H))
  (some ⟨4, [], H⟩) := by kernel_rfl
theorem e_istridesOf (C : Oracle) (a0_0 a0_1 a0_2 a1 : Sl) (H : AH) : (procM P T C (.fn F.istridesOf) [.agg [.sl a0_0, .sl a0_1, .sl a0_2], .sc (.sl a1)] H).run =
  (mkB H 1 8 [.int .i64 0] (a1.n : Int) (a1.n : Int)).bind fun m1 =>
  (C (.loop F.istridesOf 0) [.sc (.sl a1), .sc (.sl m1.1), .sc (.int .i64 1), .sc (.int .i64 (IntKind.wrap .i64 ((a0_1.n : Int) - 1))), .agg [.sl a0_0, .sl a0_1, .sl a0_2]] m1.2).bind fun r14 =>
  cond (Nat.beq r14.e 2)
  (some ⟨1, [.sc (.sl m1.1)], r14.H⟩)
  (none) := by kernel_rfl
/- loop.example/g03211/impl.rawElem -/
theorem e_irawElem (C : Oracle) (a0_0 a0_1 a0_2 : Int) (a1_0 a1_1 a1_2 : Sl) (a2 : Int) (H : AH) : (procM P T C (.fn F.irawElem) [.agg [.int .i64 a0_0, .int .i64 a0_1, .int .i64 a0_2], .agg [.sl a1_0, .sl a1_1, .sl a1_2], .sc (.int .i64 a2)] H).run =
  (C (.fn F.irawWidth) [.agg [.int .i64 a0_0, .int .i64 a0_1, .int .i64 a0_2]] H).bind fun r1 =>
  (oneP r1.vs).bind fun p2 =>
  p2.sc?.bind fun c3 =>
  (intAt .i64 [c3] 0).bind fun n4 =>
  (slB a1_2 (some (IntKind.wrap .i64 (a2 * n4))) (some (IntKind.wrap .i64 ((IntKind.wrap .i64 (a2 + 1)) * n4))) none 1).bind fun s5 =>
  some ⟨1, [.sc (.sl s5)], r1.H⟩ := by kernel_rfl
/- loop.example/g03211/impl.dotOf -/
theorem e_idotOf_0 (C : Oracle) (x0 x1 : Sl) (x5 x8 x9 : Int) (H : AH) : (procM P T C (.loop F.idotOf 0) [.sc (.sl x0), .sc (.sl x1), .sc (.int .i64 x5), .sc (.int .i64 x8), .sc (.int .i64 x9)] H).run =
  cond (decide (x9 < x8))
  ((ixA x0 x9 1).bind fun o1 =>
   (rdB H x0.b).bind fun c2 =>
   (intAt .i64 c2 o1).bind fun n3 =>
   (ixA x1 x9 1).bind fun o4 =>
   (rdB H x1.b).bind fun c5 =>
   (intAt .i64 c5 o4).bind fun n6 =>
   C (.loop F.idotOf 0) [.sc (.sl x0), .sc (.sl x1), .sc (.int .i64 (IntKind.wrap .i64 (x5 + (IntKind.wrap .i64 (n3 * n6))))), .sc (.int .i64 x8), .sc (.int .i64 (IntKind.wrap .i64 (x9 + 1)))] H)
  (some ⟨2, [.sc (.int .i64 x5)], H⟩) := by kernel_rfl
theorem e_idotOf (C : Oracle) (a0 a1 : Sl) (H : AH) : (procM P T C (.fn F.idotOf) [.sc (.sl a0), .sc (.sl a1)] H).run =
  (C (.loop F.idotOf 0) [.sc (.sl a0), .sc (.sl a1), .sc (.int .i64 0), .sc (.int .i64 (a0.n : Int)), .sc (.int .i64 0)] H).bind fun r7 =>
  cond (Nat.beq r7.e 2)
  ((nthP r7.vs 0).bind fun p8 =>
   p8.sc?.bind fun c9 =>
   (intAt .i64 [c9] 0).bind fun n10 =>
   some ⟨1, [.sc (.int .i64 n10)], r7.H⟩)
  (none) := by kernel_rfl
/- loop.example/g03211/impl.nextIndex -/
theorem e_inextIndex_0 (C : Oracle) (x0 x1 : Sl) (x5 : Int) (H : AH) : (procM P T C (.loop F.inextIndex 0) [.sc (.sl x0), .sc (.sl x1), .sc (.int .i64 x5)] H).run =
  cond (decide (x5 ≥ 0))
  ((ixA x1 x5 1).bind fun o1 =>
   (rdB H x1.b).bind fun c2 =>
   (intAt .i64 c2 o1).bind fun n3 =>
   (ixA x1 x5 1).bind fun o4 =>
   (putR H x1.b o4 [.int .i64 (IntKind.wrap .i64 (n3 + 1))]).bind fun H5 =>
   (ixA x1 x5 1).bind fun o6 =>
   (rdB H5 x1.b).bind fun c7 =>
   (intAt .i64 c7 o6).bind fun n8 =>
   (ixA x0 x5 1).bind fun o9 =>
   (rdB H5 x0.b).bind fun c10 =>
   (intAt .i64 c10 o9).bind fun n11 =>
   cond (decide (n8 < n11))
   (some ⟨1, [.sc (.bool true)], H5⟩)
   ((ixA x1 x5 1).bind fun o12 =>
    (putR H5 x1.b o12 [.int .i64 0]).bind fun H13 =>
    C (.loop F.inextIndex 0) [.sc (.sl x0), .sc (.sl x1), .sc (.int .i64 (IntKind.wrap .i64 (x5 - 1)))] H13))
  (some ⟨2, [], H⟩) := by kernel_rfl
theorem e_inextIndex (C : Oracle) (a0 a1 : Sl) (H : AH) : (procM P T C (.fn F.inextIndex) [.sc (.sl a0), .sc (.sl a1)] H).run =
  (C (.loop F.inextIndex 0) [.sc (.sl a0), .sc (.sl a1), .sc (.int .i64 (IntKind.wrap .i64 ((a0.n : Int) - 1)))] H).bind fun r14 =>
  cond (Nat.beq r14.e 1)
  ((nthP r14.vs 0).bind fun p15 =>
   p15.sc?.bind fun c16 =>
   (boolAt [c16] 0).bind fun b17 =>
   some ⟨1, [.sc (.bool b17)], r14.H⟩)
  (cond (Nat.beq r14.e 2)
   (some ⟨1, [.sc (.bool false)], r14.H⟩)
   (none)) := by kernel_rfl
/- loop.example/g03211/spec.l02One -/
theorem e_sl02One (C : Oracle) (a0_0 a0_1 a0_2 : Int) (H : AH) : (procM P T C (.fn F.sl02One) [.agg [.int .i64 a0_0, .int .i64 a0_1, .int .i64 a0_2]] H).run =
  (C (.fn F.sl02Width) [.agg [.int .i64 a0_0, .int .i64 a0_1, .int .i64 a0_2]] H).bind fun r1 =>
  (oneP r1.vs).bind fun p2 =>
  p2.sc?.bind fun c3 =>
  (intAt .i64 [c3] 0).bind fun n4 =>
  (mkB r1.H 1 8 [.int .i64 0] n4 n4).bind fun m5 =>
  ((cond (a0_0 == 5)
   (some ⟨0, [.sc (.bool (a0_0 == 5))], m5.2⟩)
   (some ⟨0, [.sc (.bool (a0_0 == 6))], m5.2⟩) : Option Out)).bind fun r6 =>
  cond (Nat.beq r6.e 0)
  ((nthP r6.vs 0).bind fun p7 =>
   p7.sc?.bind fun c8 =>
   (boolAt [c8] 0).bind fun b9 =>
   cond b9
   ((C (.fn F.sl02Top) [.agg [.int .i64 a0_0, .int .i64 a0_1, .int .i64 a0_2]] r6.H).bind fun r10 =>
    (oneP r10.vs).bind fun p11 =>
    p11.sc?.bind fun c12 =>
    (intAt .i64 [c12] 0).bind fun n13 =>
    (ixA m5.1 0 1).bind fun o14 =>
    (putR r10.H m5.1.b o14 [.int .i64 n13]).bind fun H15 =>
    some ⟨1, [.sc (.sl m5.1)], H15⟩)
   (cond (a0_0 == 4)
    ((ixA m5.1 0 1).bind fun o16 =>
     (putR r6.H m5.1.b o16 [.int .i64 0]).bind fun H17 =>
     some ⟨1, [.sc (.sl m5.1)], H17⟩)
    ((ixA m5.1 0 1).bind fun o18 =>
     (putR r6.H m5.1.b o18 [.int .i64 1]).bind fun H19 =>
     some ⟨1, [.sc (.sl m5.1)], H19⟩)))
  (none) := by kernel_rfl
/- loop.example/g03211/spec.l18Run -/
theorem e_sl18Run_0 (C : Oracle) (x11 x12 x30 : Sl) (x31 x32 : Int) (H : AH) : (procM P T C (.loop F.sl18Run 0) [.sc (.sl x11), .sc (.sl x12), .sc (.sl x30), .sc (.int .i64 x31), .sc (.int .i64 x32)] H).run =
  cond (decide (x32 < x31))
  ((ixA x30 x32 3).bind fun o10 =>
   (rdB H x30.b).bind fun c11 =>
   (slAt c11 o10).bind fun s12 =>
   (slAt c11 (o10 + 1)).bind fun s13 =>
   (slAt c11 (o10 + 1 + 1)).bind fun s14 =>
   (newB H 3 [.sl s12, .sl s13, .sl s14]).bind fun h15 =>
   (rng h15.2 h15.1 0 (1 * 3)).bind fun l16 =>
   (appB h15.2 3 72 x11 l16 1).bind fun m17 =>
   (newB m17.2 1 [.int .i64 x32]).bind fun h18 =>
   (rng h18.2 h18.1 0 (1 * 1)).bind fun l19 =>
   (appB h18.2 1 8 x12 l19 1).bind fun m20 =>
   C (.loop F.sl18Run 0) [.sc (.sl m17.1), .sc (.sl m20.1), .sc (.sl x30), .sc (.int .i64 x31), .sc (.int .i64 (IntKind.wrap .i64 (x32 + 1)))] m20.2)
  (some ⟨2, [.sc (.sl x11), .sc (.sl x12)], H⟩) := by kernel_rfl
theorem e_sl18Run_1 (C : Oracle) (x9b x9o : Nat) (x11 x12 x48 : Sl) (x49 x50 y3_0 y3_1 y3_2 : Int) (y3_3 y3_4 : Sl) (H : AH) : (procM P T C (.loop F.sl18Run 1) [.sc (.hp x9b x9o), .sc (.sl x11), .sc (.sl x12), .sc (.sl x48), .sc (.int .i64 x49), .sc (.int .i64 x50), .agg [.int .i64 y3_0, .int .i64 y3_1, .int .i64 y3_2, .sl y3_3, .sl y3_4]] H).run =
  cond (decide (x50 < x49))
  ((ixA x48 x50 2).bind fun o29 =>
   (rdB H x48.b).bind fun c30 =>
   (intAt .i64 c30 o29).bind fun n31 =>
   (intAt .i64 c30 (o29 + 1)).bind fun n32 =>
   (rdB H x9b).bind fun c33 =>
   (slAt c33 (x9o + 0)).bind fun s34 =>
   (ixA s34 (IntKind.wrap .i64 ((y3_3.n : Int) + x50)) 3).bind fun o35 =>
   (rdB H s34.b).bind fun c36 =>
   (slAt c36 (o35 + 0)).bind fun s37 =>
   (ixA x11 n31 3).bind fun o38 =>
   (rdB H x11.b).bind fun c39 =>
   (slAt c39 o38).bind fun s40 =>
   (slAt c39 (o38 + 1)).bind fun s41 =>
   (slAt c39 (o38 + 1 + 1)).bind fun s42 =>
   (ixA x11 n32 3).bind fun o43 =>
   (rdB H x11.b).bind fun c44 =>
   (slAt c44 o43).bind fun s45 =>
   (slAt c44 (o43 + 1)).bind fun s46 =>
   (slAt c44 (o43 + 1 + 1)).bind fun s47 =>
   (C (.fn F.sl08Fits) [.agg [.sl s40, .sl s41, .sl s42], .agg [.sl s45, .sl s46, .sl s47], .sc (.sl s37)] H).bind fun r48 =>
   (oneP r48.vs).bind fun p49 =>
   p49.sc?.bind fun c50 =>
   (boolAt [c50] 0).bind fun b51 =>
   cond (!b51)
   (some ⟨1, [.sc (.sl ⟨0, 0, 0, 0, true⟩), .sc (.sl ⟨0, 0, 0, 0, true⟩), .sc (.bool false)], r48.H⟩)
   ((ixA x11 n31 3).bind fun o52 =>
    (rdB (reserve r48.H 1) x11.b).bind fun c53 =>
    (slAt c53 o52).bind fun s54 =>
    (slAt c53 (o52 + 1)).bind fun s55 =>
    (slAt c53 (o52 + 1 + 1)).bind fun s56 =>
    (ixA x11 n32 3).bind fun o57 =>
    (rdB (reserve r48.H 1) x11.b).bind fun c58 =>
    (slAt c58 o57).bind fun s59 =>
    (slAt c58 (o57 + 1)).bind fun s60 =>
    (slAt c58 (o57 + 1 + 1)).bind fun s61 =>
    (C (.fn F.sl08Pair) [.agg [.int .i64 y3_0, .int .i64 y3_1, .int .i64 y3_2], .agg [.sl s54, .sl s55, .sl s56], .agg [.sl s59, .sl s60, .sl s61], .sc (.sl s37)] (reserve r48.H 1)).bind fun r62 =>
    (oneP r62.vs).bind fun p63 =>
    p63.agg?.bind fun l64 =>
    cond (decide (l64.length = 3))
    ((slAt l64 0).bind fun s65 =>
     (slAt l64 1).bind fun s66 =>
     (slAt l64 2).bind fun s67 =>
     (newAt r62.H (r48.H.length + 0) 3 [.sl s65, .sl s66, .sl s67]).bind fun h68 =>
     (rng h68.2 h68.1 0 (1 * 3)).bind fun l69 =>
     (appB h68.2 3 72 x11 l69 1).bind fun m70 =>
     (newB m70.2 1 []).bind fun h71 =>
     (C (.loop F.sl18Run 2) [.sc (.sl ⟨h71.1, 0, 0, 0, true⟩), .sc (.sl x12), .sc (.int .i64 (x12.n : Int)), .sc (.int .i64 0), .agg [.int .i64 n31, .int .i64 n32]] h71.2).bind fun r78 =>
     cond (Nat.beq r78.e 6)
     ((nthP r78.vs 0).bind fun p79 =>
      p79.sc?.bind fun c80 =>
      (slAt [c80] 0).bind fun s81 =>
      (newB r78.H 1 [.int .i64 (IntKind.wrap .i64 ((m70.1.n : Int) - 1))]).bind fun h82 =>
      (rng h82.2 h82.1 0 (1 * 1)).bind fun l83 =>
      (appB h82.2 1 8 s81 l83 1).bind fun m84 =>
      C (.loop F.sl18Run 1) [.sc (.hp x9b x9o), .sc (.sl m70.1), .sc (.sl m84.1), .sc (.sl x48), .sc (.int .i64 x49), .sc (.int .i64 (IntKind.wrap .i64 (x50 + 1))), .agg [.int .i64 y3_0, .int .i64 y3_1, .int .i64 y3_2, .sl y3_3, .sl y3_4]] m84.2)
     (none))
    (none)))
  (some ⟨4, [.sc (.sl x11), .sc (.sl x12)], H⟩) := by kernel_rfl
theorem e_sl18Run_2 (C : Oracle) (x18 x98 : Sl) (x99 x100 y16_0 y16_1 : Int) (H : AH) : (procM P T C (.loop F.sl18Run 2) [.sc (.sl x18), .sc (.sl x98), .sc (.int .i64 x99), .sc (.int .i64 x100), .agg [.int .i64 y16_0, .int .i64 y16_1]] H).run =
  cond (decide (x100 < x99))
  ((ixA x98 x100 1).bind fun o72 =>
   (rdB H x98.b).bind fun c73 =>
   (intAt .i64 c73 o72).bind fun n74 =>
   cond (n74 != y16_0)
   (cond (n74 != y16_1)
    ((newB H 1 [.int .i64 n74]).bind fun h75 =>
     (rng h75.2 h75.1 0 (1 * 1)).bind fun l76 =>
     (appB h75.2 1 8 x18 l76 1).bind fun m77 =>
     C (.loop F.sl18Run 2) [.sc (.sl m77.1), .sc (.sl x98), .sc (.int .i64 x99), .sc (.int .i64 (IntKind.wrap .i64 (x100 + 1))), .agg [.int .i64 y16_0, .int .i64 y16_1]] m77.2)
    (C (.loop F.sl18Run 2) [.sc (.sl x18), .sc (.sl x98), .sc (.int .i64 x99), .sc (.int .i64 (IntKind.wrap .i64 (x100 + 1))), .agg [.int .i64 y16_0, .int .i64 y16_1]] H))
   (C (.loop F.sl18Run 2) [.sc (.sl x18), .sc (.sl x98), .sc (.int .i64 x99), .sc (.int .i64 (IntKind.wrap .i64 (x100 + 1))), .agg [.int .i64 y16_0, .int .i64 y16_1]] H))
  (some ⟨6, [.sc (.sl x18)], H⟩) := by kernel_rfl
theorem e_sl18Run (C : Oracle) (a0_0 a0_1 a0_2 : Int) (a0_3 a0_4 a1 : Sl) (a2 : Int) (H : AH) : (procM P T C (.fn F.sl18Run) [.agg [.int .i64 a0_0, .int .i64 a0_1, .int .i64 a0_2, .sl a0_3, .sl a0_4], .sc (.sl a1), .sc (.int .i64 a2)] H).run =
  (C (.fn F.sl17Run) [.agg [.int .i64 a0_0, .int .i64 a0_1, .int .i64 a0_2, .sl a0_3, .sl a0_4], .sc (.sl a1)] H).bind fun r1 =>
  (lenP r1.vs 2).bind fun _ =>
  (nthP r1.vs 0).bind fun p2 =>
  p2.sc?.bind fun c3 =>
  (ptrAt [c3] 0).bind fun p4 =>
  (nthP r1.vs 1).bind fun p5 =>
  p5.sc?.bind fun c6 =>
  (slAt [c6] 0).bind fun s7 =>
  (newB r1.H 3 []).bind fun h8 =>
  (newB h8.2 1 []).bind fun h9 =>
  (C (.loop F.sl18Run 0) [.sc (.sl ⟨h8.1, 0, 0, 0, true⟩), .sc (.sl ⟨h9.1, 0, 0, 0, true⟩), .sc (.sl a0_3), .sc (.int .i64 (a0_3.n : Int)), .sc (.int .i64 0)] h9.2).bind fun r21 =>
  cond (Nat.beq r21.e 2)
  ((nthP r21.vs 0).bind fun p22 =>
   p22.sc?.bind fun c23 =>
   (slAt [c23] 0).bind fun s24 =>
   (nthP r21.vs 1).bind fun p25 =>
   p25.sc?.bind fun c26 =>
   (slAt [c26] 0).bind fun s27 =>
   (slB a1 none (some a2) none 2).bind fun s28 =>
   (C (.loop F.sl18Run 1) [.sc (.hp p4.1 p4.2), .sc (.sl s24), .sc (.sl s27), .sc (.sl s28), .sc (.int .i64 (s28.n : Int)), .sc (.int .i64 0), .agg [.int .i64 a0_0, .int .i64 a0_1, .int .i64 a0_2, .sl a0_3, .sl a0_4]] r21.H).bind fun r85 =>
   cond (Nat.beq r85.e 1)
   ((nthP r85.vs 0).bind fun p86 =>
    p86.sc?.bind fun c87 =>
    (slAt [c87] 0).bind fun s88 =>
    (nthP r85.vs 1).bind fun p89 =>
    p89.sc?.bind fun c90 =>
    (slAt [c90] 0).bind fun s91 =>
    (nthP r85.vs 2).bind fun p92 =>
    p92.sc?.bind fun c93 =>
    (boolAt [c93] 0).bind fun b94 =>
    some ⟨1, [.sc (.sl s88), .sc (.sl s91), .sc (.bool b94)], r85.H⟩)
   (cond (Nat.beq r85.e 4)
    ((nthP r85.vs 0).bind fun p95 =>
     p95.sc?.bind fun c96 =>
     (slAt [c96] 0).bind fun s97 =>
     (nthP r85.vs 1).bind fun p98 =>
     p98.sc?.bind fun c99 =>
     (slAt [c99] 0).bind fun s100 =>
     some ⟨1, [.sc (.sl s97), .sc (.sl s100), .sc (.bool true)], r85.H⟩)
    (none)))
  (none) := by kernel_rfl
/- loop.example/g03211/spec.l18Finish -/
theorem e_sl18Finish (C : Oracle) (a0_0 a0_1 a0_2 : Int) (a0_3 a0_4 a1_0 a1_1 a1_2 : Sl) (H : AH) : (procM P T C (.fn F.sl18Finish) [.agg [.int .i64 a0_0, .int .i64 a0_1, .int .i64 a0_2, .sl a0_3, .sl a0_4], .agg [.sl a1_0, .sl a1_1, .sl a1_2]] H).run =
  (C (.fn F.sl08Sum) [.agg [.int .i64 a0_0, .int .i64 a0_1, .int .i64 a0_2], .agg [.sl a1_0, .sl a1_1, .sl a1_2], .sc (.sl a0_4)] H).bind fun r1 =>
  (oneP r1.vs).bind fun p2 =>
  p2.agg?.bind fun l3 =>
  cond (decide (l3.length = 3))
  ((slAt l3 0).bind fun s4 =>
   (slAt l3 1).bind fun s5 =>
   (slAt l3 2).bind fun s6 =>
   (C (.fn F.sl06Permute) [.agg [.int .i64 a0_0, .int .i64 a0_1, .int .i64 a0_2], .agg [.sl s4, .sl s5, .sl s6], .sc (.sl a0_4)] r1.H).bind fun r7 =>
   (oneP r7.vs).bind fun p8 =>
   p8.agg?.bind fun l9 =>
   cond (decide (l9.length = 3))
   ((slAt l9 0).bind fun s10 =>
    (slAt l9 1).bind fun s11 =>
    (slAt l9 2).bind fun s12 =>
    some ⟨1, [.agg [.sl s10, .sl s11, .sl s12]], r7.H⟩)
   (none))
  (none) := by kernel_rfl
/- loop.example/g03211/impl.copyNetwork -/
theorem e_icopyNetwork_0 (C : Oracle) (x13 : Sl) (x14 x15 y3_0 y3_1 y3_2 : Int) (y3_3 y3_4 : Sl) (H : AH) : (procM P T C (.loop F.icopyNetwork 0) [.sc (.sl x13), .sc (.int .i64 x14), .sc (.int .i64 x15), .agg [.int .i64 y3_0, .int .i64 y3_1, .int .i64 y3_2, .sl y3_3, .sl y3_4]] H).run =
  cond (decide (x15 < x14))
  ((ixA x13 x15 3).bind fun o5 =>
   (rdB H x13.b).bind fun c6 =>
   (slAt c6 o5).bind fun s7 =>
   (slAt c6 (o5 + 1)).bind fun s8 =>
   (slAt c6 (o5 + 1 + 1)).bind fun s9 =>
   (C (.fn F.icopyTensor) [.agg [.sl s7, .sl s8, .sl s9]] (reserve H 1)).bind fun r10 =>
   (oneP r10.vs).bind fun p11 =>
   p11.agg?.bind fun l12 =>
   cond (decide (l12.length = 3))
   ((slAt l12 0).bind fun s13 =>
    (slAt l12 1).bind fun s14 =>
    (slAt l12 2).bind fun s15 =>
    (newAt r10.H (H.length + 0) 3 [.sl s13, .sl s14, .sl s15]).bind fun h16 =>
    (rng h16.2 h16.1 0 (1 * 3)).bind fun l17 =>
    (appB h16.2 3 72 y3_3 l17 1).bind fun m18 =>
    C (.loop F.icopyNetwork 0) [.sc (.sl x13), .sc (.int .i64 x14), .sc (.int .i64 (IntKind.wrap .i64 (x15 + 1))), .agg [.int .i64 y3_0, .int .i64 y3_1, .int .i64 y3_2, .sl m18.1, .sl y3_4]] m18.2)
   (none))
  (some ⟨2, [.agg [.int .i64 y3_0, .int .i64 y3_1, .int .i64 y3_2, .sl y3_3, .sl y3_4]], H⟩) := by kernel_rfl
theorem e_icopyNetwork (C : Oracle) (a0_0 a0_1 a0_2 : Int) (a0_3 a0_4 : Sl) (H : AH) : (procM P T C (.fn F.icopyNetwork) [.agg [.int .i64 a0_0, .int .i64 a0_1, .int .i64 a0_2, .sl a0_3, .sl a0_4]] H).run =
  (C (.fn F.icopyInts) [.sc (.sl a0_4)] H).bind fun r1 =>
  (oneP r1.vs).bind fun p2 =>
  p2.sc?.bind fun c3 =>
  (slAt [c3] 0).bind fun s4 =>
  (C (.loop F.icopyNetwork 0) [.sc (.sl a0_3), .sc (.int .i64 (a0_3.n : Int)), .sc (.int .i64 0), .agg [.int .i64 a0_0, .int .i64 a0_1, .int .i64 a0_2, .sl ⟨0, 0, 0, 0, true⟩, .sl s4]] r1.H).bind fun r19 =>
  cond (Nat.beq r19.e 2)
  (((nthP r19.vs 0).bind PV.agg?).bind fun l20 =>
   cond (decide (l20.length = 5))
   ((intAt .i64 l20 0).bind fun n21 =>
    (intAt .i64 l20 1).bind fun n22 =>
    (intAt .i64 l20 2).bind fun n23 =>
    (slAt l20 3).bind fun s24 =>
    (slAt l20 4).bind fun s25 =>
    some ⟨1, [.agg [.int .i64 n21, .int .i64 n22, .int .i64 n23, .sl s24, .sl s25]], r19.H⟩)
   (none))
  (none) := by kernel_rfl
/- loop.example/g03211/impl.PartialNetwork -/
theorem e_iPartialNetwork_0 (C : Oracle) (x8b x8o : Nat) (x40 : Sl) (x41 x42 y3_0 y3_1 y3_2 : Int) (y3_3 y3_4 : Sl) (y6_0 y6_1 y6_2 : Int) (y6_3 y6_4 : Sl) (y9_0 y9_1 y9_2 : Int) (y9_3 y9_4 : Sl) (H : AH) : (procM P T C (.loop F.iPartialNetwork 0) [.sc (.hp x8b x8o), .sc (.sl x40), .sc (.int .i64 x41), .sc (.int .i64 x42), .agg [.int .i64 y3_0, .int .i64 y3_1, .int .i64 y3_2, .sl y3_3, .sl y3_4], .agg [.int .i64 y6_0, .int .i64 y6_1, .int .i64 y6_2, .sl y6_3, .sl y6_4], .agg [.int .i64 y9_0, .int .i64 y9_1, .int .i64 y9_2, .sl y9_3, .sl y9_4]] H).run =
  cond (decide (x42 < x41))
  ((ixA x40 x42 2).bind fun o18 =>
   (rdB H x40.b).bind fun c19 =>
   (intAt .i64 c19 o18).bind fun n20 =>
   (intAt .i64 c19 (o18 + 1)).bind fun n21 =>
   (C (.fn F.x__impl_orderState__place) [.sc (.hp x8b x8o), .sc (.int .i64 n20)] H).bind fun r22 =>
   (oneP r22.vs).bind fun p23 =>
   p23.sc?.bind fun c24 =>
   (intAt .i64 [c24] 0).bind fun n25 =>
   (C (.fn F.x__impl_orderState__place) [.sc (.hp x8b x8o), .sc (.int .i64 n21)] r22.H).bind fun r26 =>
   (oneP r26.vs).bind fun p27 =>
   p27.sc?.bind fun c28 =>
   (intAt .i64 [c28] 0).bind fun n29 =>
   (ixA y9_3 n25 3).bind fun o31 =>
   cond (decide (y9_3.b < r26.H.length))
   ((rdB r26.H y9_3.b).bind fun c32 =>
    (slAt c32 o31).bind fun s33 =>
    (slAt c32 (o31 + 1)).bind fun s34 =>
    (slAt c32 (o31 + 1 + 1)).bind fun s35 =>
    (ixA y9_3 n29 3).bind fun o36 =>
    cond (decide (y9_3.b < r26.H.length))
    ((rdB r26.H y9_3.b).bind fun c37 =>
     (slAt c37 o36).bind fun s38 =>
     (slAt c37 (o36 + 1)).bind fun s39 =>
     (slAt c37 (o36 + 1 + 1)).bind fun s40 =>
     (C (.fn F.x__impl_orderState__resultLabels) [.sc (.hp x8b x8o), .sc (.int .i64 n25), .sc (.int .i64 n29)] r26.H).bind fun r41 =>
     (oneP r41.vs).bind fun p42 =>
     p42.sc?.bind fun c43 =>
     (slAt [c43] 0).bind fun s44 =>
     cond (decide (r41.H.take (r26.H.length) = r26.H.take (r26.H.length)))
     ((C (.fn F.iContractPair) [.agg [.int .i64 y3_0, .int .i64 y3_1, .int .i64 y3_2], .agg [.sl s33, .sl s34, .sl s35], .agg [.sl s38, .sl s39, .sl s40], .sc (.sl s44)] r41.H).bind fun r45 =>
      (lenP r45.vs 2).bind fun _ =>
      (nthP r45.vs 0).bind fun p46 =>
      p46.agg?.bind fun l47 =>
      cond (decide (l47.length = 3))
      ((slAt l47 0).bind fun s48 =>
       (slAt l47 1).bind fun s49 =>
       (slAt l47 2).bind fun s50 =>
       (nthP r45.vs 1).bind fun p51 =>
       p51.sc?.bind fun c52 =>
       (boolAt [c52] 0).bind fun b53 =>
       cond (!b53)
       (some ⟨1, [.sc (.bool false), .agg [.int .i64 0, .int .i64 0, .int .i64 0, .sl ⟨0, 0, 0, 0, true⟩, .sl ⟨0, 0, 0, 0, true⟩], .agg [.int .i64 y9_0, .int .i64 y9_1, .int .i64 y9_2, .sl y9_3, .sl y9_4]], r45.H⟩)
       ((C (.loop F.iPartialNetwork 1) [.sc (.int .i64 n25), .sc (.int .i64 n29), .sc (.sl ⟨0, 0, 0, 0, true⟩), .sc (.sl y9_3), .sc (.int .i64 (y9_3.n : Int)), .sc (.int .i64 0)] r45.H).bind fun r66 =>
        cond (Nat.beq r66.e 4)
        ((nthP r66.vs 0).bind fun p67 =>
         p67.sc?.bind fun c68 =>
         (slAt [c68] 0).bind fun s69 =>
         (newB r66.H 3 [.sl s48, .sl s49, .sl s50]).bind fun h70 =>
         (rng h70.2 h70.1 0 (1 * 3)).bind fun l71 =>
         (appB h70.2 3 72 s69 l71 1).bind fun m72 =>
         (C (.fn F.x__impl_orderState__contract) [.sc (.hp x8b x8o), .sc (.int .i64 n25), .sc (.int .i64 n29)] m72.2).bind fun r73 =>
         (oneP r73.vs).bind fun p74 =>
         p74.agg?.bind fun l75 =>
         cond (decide (l75.length = 2))
         ((intAt .i64 l75 0).bind fun n76 =>
          (intAt .i64 l75 1).bind fun n77 =>
          C (.loop F.iPartialNetwork 0) [.sc (.hp x8b x8o), .sc (.sl x40), .sc (.int .i64 x41), .sc (.int .i64 (IntKind.wrap .i64 (x42 + 1))), .agg [.int .i64 y3_0, .int .i64 y3_1, .int .i64 y3_2, .sl y3_3, .sl y3_4], .agg [.int .i64 y6_0, .int .i64 y6_1, .int .i64 y6_2, .sl y6_3, .sl y6_4], .agg [.int .i64 y9_0, .int .i64 y9_1, .int .i64 y9_2, .sl m72.1, .sl y9_4]] r73.H)
         (none))
        (none)))
      (none))
     (none))
    (none))
   (none))
  (some ⟨2, [.agg [.int .i64 y6_0, .int .i64 y6_1, .int .i64 y6_2, .sl y6_3, .sl y6_4], .agg [.int .i64 y9_0, .int .i64 y9_1, .int .i64 y9_2, .sl y9_3, .sl y9_4]], H⟩) := by kernel_rfl
theorem e_iPartialNetwork_1 (C : Oracle) (x12 x13 : Int) (x16 x78 : Sl) (x79 x80 : Int) (H : AH) : (procM P T C (.loop F.iPartialNetwork 1) [.sc (.int .i64 x12), .sc (.int .i64 x13), .sc (.sl x16), .sc (.sl x78), .sc (.int .i64 x79), .sc (.int .i64 x80)] H).run =
  cond (decide (x80 < x79))
  ((ixA x78 x80 3).bind fun o54 =>
   (rdB H x78.b).bind fun c55 =>
   (slAt c55 o54).bind fun s56 =>
   (slAt c55 (o54 + 1)).bind fun s57 =>
   (slAt c55 (o54 + 1 + 1)).bind fun s58 =>
   ((cond (x80 != x12)
   (some ⟨0, [.sc (.bool (x80 != x13))], H⟩)
   (some ⟨0, [.sc (.bool false)], H⟩) : Option Out)).bind fun r59 =>
   cond (Nat.beq r59.e 0)
   ((nthP r59.vs 0).bind fun p60 =>
    p60.sc?.bind fun c61 =>
    (boolAt [c61] 0).bind fun b62 =>
    cond b62
    ((newB r59.H 3 [.sl s56, .sl s57, .sl s58]).bind fun h63 =>
     (rng h63.2 h63.1 0 (1 * 3)).bind fun l64 =>
     (appB h63.2 3 72 x16 l64 1).bind fun m65 =>
     C (.loop F.iPartialNetwork 1) [.sc (.int .i64 x12), .sc (.int .i64 x13), .sc (.sl m65.1), .sc (.sl x78), .sc (.int .i64 x79), .sc (.int .i64 (IntKind.wrap .i64 (x80 + 1)))] m65.2)
    (C (.loop F.iPartialNetwork 1) [.sc (.int .i64 x12), .sc (.int .i64 x13), .sc (.sl x16), .sc (.sl x78), .sc (.int .i64 x79), .sc (.int .i64 (IntKind.wrap .i64 (x80 + 1)))] r59.H))
   (none))
  (some ⟨4, [.sc (.sl x16)], H⟩) := by kernel_rfl
theorem e_iPartialNetwork (C : Oracle) (a0_0 a0_1 a0_2 : Int) (a0_3 a0_4 a1 : Sl) (a2 : Int) (H : AH) : (procM P T C (.fn F.iPartialNetwork) [.agg [.int .i64 a0_0, .int .i64 a0_1, .int .i64 a0_2, .sl a0_3, .sl a0_4], .sc (.sl a1), .sc (.int .i64 a2)] H).run =
  (C (.fn F.iOrderOk) [.agg [.int .i64 a0_0, .int .i64 a0_1, .int .i64 a0_2, .sl a0_3, .sl a0_4], .sc (.sl a1)] H).bind fun r1 =>
  (oneP r1.vs).bind fun p2 =>
  p2.sc?.bind fun c3 =>
  (boolAt [c3] 0).bind fun b4 =>
  cond (!b4)
  (some ⟨1, [.agg [.int .i64 0, .int .i64 0, .int .i64 0, .sl ⟨0, 0, 0, 0, true⟩, .sl ⟨0, 0, 0, 0, true⟩], .sc (.bool false)], r1.H⟩)
  (cond (decide (a2 < 0))
   (some ⟨1, [.agg [.int .i64 0, .int .i64 0, .int .i64 0, .sl ⟨0, 0, 0, 0, true⟩, .sl ⟨0, 0, 0, 0, true⟩], .sc (.bool false)], r1.H⟩)
   (cond (decide (a2 > (a1.n : Int)))
    (some ⟨1, [.agg [.int .i64 0, .int .i64 0, .int .i64 0, .sl ⟨0, 0, 0, 0, true⟩, .sl ⟨0, 0, 0, 0, true⟩], .sc (.bool false)], r1.H⟩)
    ((C (.fn F.istartState) [.agg [.int .i64 a0_0, .int .i64 a0_1, .int .i64 a0_2, .sl a0_3, .sl a0_4]] r1.H).bind fun r5 =>
     (oneP r5.vs).bind fun p6 =>
     p6.sc?.bind fun c7 =>
     (ptrAt [c7] 0).bind fun p8 =>
     (C (.fn F.icopyNetwork) [.agg [.int .i64 a0_0, .int .i64 a0_1, .int .i64 a0_2, .sl a0_3, .sl a0_4]] r5.H).bind fun r9 =>
     (oneP r9.vs).bind fun p10 =>
     p10.agg?.bind fun l11 =>
     cond (decide (l11.length = 5))
     ((intAt .i64 l11 0).bind fun n12 =>
      (intAt .i64 l11 1).bind fun n13 =>
      (intAt .i64 l11 2).bind fun n14 =>
      (slAt l11 3).bind fun s15 =>
      (slAt l11 4).bind fun s16 =>
      (slB a1 none (some a2) none 2).bind fun s17 =>
      (C (.loop F.iPartialNetwork 0) [.sc (.hp p8.1 p8.2), .sc (.sl s17), .sc (.int .i64 (s17.n : Int)), .sc (.int .i64 0), .agg [.int .i64 a0_0, .int .i64 a0_1, .int .i64 a0_2, .sl a0_3, .sl a0_4], .agg [.int .i64 0, .int .i64 0, .int .i64 0, .sl ⟨0, 0, 0, 0, true⟩, .sl ⟨0, 0, 0, 0, true⟩], .agg [.int .i64 n12, .int .i64 n13, .int .i64 n14, .sl s15, .sl s16]] r9.H).bind fun r78 =>
      cond (Nat.beq r78.e 1)
      ((nthP r78.vs 0).bind fun p79 =>
       p79.sc?.bind fun c80 =>
       (boolAt [c80] 0).bind fun b81 =>
       ((nthP r78.vs 1).bind PV.agg?).bind fun l82 =>
       cond (decide (l82.length = 5))
       ((intAt .i64 l82 0).bind fun n83 =>
        (intAt .i64 l82 1).bind fun n84 =>
        (intAt .i64 l82 2).bind fun n85 =>
        (slAt l82 3).bind fun s86 =>
        (slAt l82 4).bind fun s87 =>
        ((nthP r78.vs 2).bind PV.agg?).bind fun l88 =>
        cond (decide (l88.length = 5))
        ((intAt .i64 l88 0).bind fun n89 =>
         (intAt .i64 l88 1).bind fun n90 =>
         (intAt .i64 l88 2).bind fun n91 =>
         (slAt l88 3).bind fun s92 =>
         (slAt l88 4).bind fun s93 =>
         some ⟨1, [.agg [.int .i64 n83, .int .i64 n84, .int .i64 n85, .sl s86, .sl s87], .sc (.bool b81)], r78.H⟩)
        (none))
       (none))
      (cond (Nat.beq r78.e 2)
       (((nthP r78.vs 0).bind PV.agg?).bind fun l94 =>
        cond (decide (l94.length = 5))
        ((intAt .i64 l94 0).bind fun n95 =>
         (intAt .i64 l94 1).bind fun n96 =>
         (intAt .i64 l94 2).bind fun n97 =>
         (slAt l94 3).bind fun s98 =>
         (slAt l94 4).bind fun s99 =>
         ((nthP r78.vs 1).bind PV.agg?).bind fun l100 =>
         cond (decide (l100.length = 5))
         ((intAt .i64 l100 0).bind fun n101 =>
          (intAt .i64 l100 1).bind fun n102 =>
          (intAt .i64 l100 2).bind fun n103 =>
          (slAt l100 3).bind fun s104 =>
          (slAt l100 4).bind fun s105 =>
          some ⟨1, [.agg [.int .i64 n101, .int .i64 n102, .int .i64 n103, .sl s104, .sl s105], .sc (.bool true)], r78.H⟩)
         (none))
        (none))
       (none)))
     (none)))) := by kernel_rfl
/- loop.example/g03211/impl.scalarOne -/
theorem e_iscalarOne (C : Oracle) (a0_0 a0_1 a0_2 : Int) (H : AH) : (procM P T C (.fn F.iscalarOne) [.agg [.int .i64 a0_0, .int .i64 a0_1, .int .i64 a0_2]] H).run =
  (C (.fn F.irawOne) [.agg [.int .i64 a0_0, .int .i64 a0_1, .int .i64 a0_2]] H).bind fun r1 =>
  (oneP r1.vs).bind fun p2 =>
  p2.sc?.bind fun c3 =>
  (slAt [c3] 0).bind fun s4 =>
  some ⟨1, [.agg [.sl ⟨0, 0, 0, 0, true⟩, .sl ⟨0, 0, 0, 0, true⟩, .sl s4]], r1.H⟩ := by kernel_rfl
/- loop.example/g03211/impl.FinishTensor -/
theorem e_iFinishTensor (C : Oracle) (a0_0 a0_1 a0_2 : Int) (a0_3 a0_4 a1_0 a1_1 a1_2 : Sl) (H : AH) : (procM P T C (.fn F.iFinishTensor) [.agg [.int .i64 a0_0, .int .i64 a0_1, .int .i64 a0_2, .sl a0_3, .sl a0_4], .agg [.sl a1_0, .sl a1_1, .sl a1_2]] H).run =
  (C (.fn F.iNetworkOk) [.agg [.int .i64 a0_0, .int .i64 a0_1, .int .i64 a0_2, .sl a0_3, .sl a0_4]] H).bind fun r1 =>
  (oneP r1.vs).bind fun p2 =>
  p2.sc?.bind fun c3 =>
  (boolAt [c3] 0).bind fun b4 =>
  cond (!b4)
  (some ⟨1, [.agg [.sl ⟨0, 0, 0, 0, true⟩, .sl ⟨0, 0, 0, 0, true⟩, .sl ⟨0, 0, 0, 0, true⟩], .sc (.bool false)], r1.H⟩)
  ((C (.fn F.iTensorOk) [.agg [.int .i64 a0_0, .int .i64 a0_1, .int .i64 a0_2], .agg [.sl a1_0, .sl a1_1, .sl a1_2]] r1.H).bind fun r5 =>
   (oneP r5.vs).bind fun p6 =>
   p6.sc?.bind fun c7 =>
   (boolAt [c7] 0).bind fun b8 =>
   cond (!b8)
   (some ⟨1, [.agg [.sl ⟨0, 0, 0, 0, true⟩, .sl ⟨0, 0, 0, 0, true⟩, .sl ⟨0, 0, 0, 0, true⟩], .sc (.bool false)], r5.H⟩)
   ((C (.fn F.iallIn) [.sc (.sl a0_4), .sc (.sl a1_0)] r5.H).bind fun r9 =>
    (oneP r9.vs).bind fun p10 =>
    p10.sc?.bind fun c11 =>
    (boolAt [c11] 0).bind fun b12 =>
    cond (!b12)
    (some ⟨1, [.agg [.sl ⟨0, 0, 0, 0, true⟩, .sl ⟨0, 0, 0, 0, true⟩, .sl ⟨0, 0, 0, 0, true⟩], .sc (.bool false)], r9.H⟩)
    ((C (.fn F.iSumLabels) [.agg [.int .i64 a0_0, .int .i64 a0_1, .int .i64 a0_2], .agg [.sl a1_0, .sl a1_1, .sl a1_2], .sc (.sl a0_4)] r9.H).bind fun r13 =>
     (oneP r13.vs).bind fun p14 =>
     p14.agg?.bind fun l15 =>
     cond (decide (l15.length = 3))
     ((slAt l15 0).bind fun s16 =>
      (slAt l15 1).bind fun s17 =>
      (slAt l15 2).bind fun s18 =>
      (C (.fn F.iPermuteTensor) [.agg [.int .i64 a0_0, .int .i64 a0_1, .int .i64 a0_2], .agg [.sl s16, .sl s17, .sl s18], .sc (.sl a0_4)] r13.H).bind fun r19 =>
      (lenP r19.vs 2).bind fun _ =>
      (nthP r19.vs 0).bind fun p20 =>
      p20.agg?.bind fun l21 =>
      cond (decide (l21.length = 3))
      ((slAt l21 0).bind fun s22 =>
       (slAt l21 1).bind fun s23 =>
       (slAt l21 2).bind fun s24 =>
       (nthP r19.vs 1).bind fun p25 =>
       p25.sc?.bind fun c26 =>
       (boolAt [c26] 0).bind fun b27 =>
       some ⟨1, [.agg [.sl s22, .sl s23, .sl s24], .sc (.bool b27)], r19.H⟩)
      (none))
     (none)))) := by kernel_rfl
/- loop.example/g03211/impl.rawTop -/
theorem e_irawTop (C : Oracle) (a0_0 a0_1 a0_2 : Int) (H : AH) : (procM P T C (.fn F.irawTop) [.agg [.int .i64 a0_0, .int .i64 a0_1, .int .i64 a0_2]] H).run =
  cond (a0_0 == 1)
  (some ⟨1, [.sc (.int .i64 1)], H⟩)
  (((cond (a0_0 == 3)
   (some ⟨0, [.sc (.bool (a0_0 == 3))], H⟩)
   (cond (a0_0 == 4)
    (some ⟨0, [.sc (.bool (a0_0 == 4))], H⟩)
    (some ⟨0, [.sc (.bool (a0_0 == 5))], H⟩)) : Option Out)).bind fun r1 =>
   cond (Nat.beq r1.e 0)
   ((nthP r1.vs 0).bind fun p2 =>
    p2.sc?.bind fun c3 =>
    (boolAt [c3] 0).bind fun b4 =>
    cond b4
    (some ⟨1, [.sc (.int .i64 a0_1)], r1.H⟩)
    (cond (a0_0 == 6)
     (cond (decide (a0_2 < 0))
      (none)
      (some ⟨1, [.sc (.int .i64 (IntKind.wrap .i64 ((shlL .i64 1 a0_2) - 1)))], r1.H⟩))
     (some ⟨1, [.sc (.int .i64 (IntKind.wrap .i64 (a0_1 - 1)))], r1.H⟩)))
   (none)) := by kernel_rfl
/- loop.example/g03211/spec.l08Fits -/
theorem e_sl08Fits (C : Oracle) (a0_0 a0_1 a0_2 a1_0 a1_1 a1_2 a2 : Sl) (H : AH) : (procM P T C (.fn F.sl08Fits) [.agg [.sl a0_0, .sl a0_1, .sl a0_2], .agg [.sl a1_0, .sl a1_1, .sl a1_2], .sc (.sl a2)] H).run =
  (C (.fn F.sl08Join) [.agg [.sl a0_0, .sl a0_1, .sl a0_2], .agg [.sl a1_0, .sl a1_1, .sl a1_2]] H).bind fun r1 =>
  (lenP r1.vs 3).bind fun _ =>
  (nthP r1.vs 0).bind fun p2 =>
  p2.sc?.bind fun c3 =>
  (slAt [c3] 0).bind fun s4 =>
  (nthP r1.vs 1).bind fun p5 =>
  p5.sc?.bind fun c6 =>
  (slAt [c6] 0).bind fun s7 =>
  (nthP r1.vs 2).bind fun p8 =>
  p8.sc?.bind fun c9 =>
  (boolAt [c9] 0).bind fun b10 =>
  cond b10
  ((C (.fn F.sl05Product) [.sc (.sl s7), .sc (.int .i64 65536)] r1.H).bind fun r11 =>
   (oneP r11.vs).bind fun p12 =>
   p12.sc?.bind fun c13 =>
   (intAt .i64 [c13] 0).bind fun n14 =>
   cond (decide (n14 ≤ 65536))
   ((C (.fn F.sl08Keep) [.sc (.sl s4), .sc (.sl s7), .sc (.sl a2)] r11.H).bind fun r15 =>
    (oneP r15.vs).bind fun p16 =>
    p16.agg?.bind fun l17 =>
    cond (decide (l17.length = 3))
    ((slAt l17 0).bind fun s18 =>
     (slAt l17 1).bind fun s19 =>
     (slAt l17 2).bind fun s20 =>
     (C (.fn F.sTensorSize) [.agg [.sl s18, .sl s19, .sl s20]] r15.H).bind fun r21 =>
     (oneP r21.vs).bind fun p22 =>
     p22.sc?.bind fun c23 =>
     (intAt .i64 [c23] 0).bind fun n24 =>
     some ⟨1, [.sc (.bool (decide (n24 ≥ 0)))], r21.H⟩)
    (none))
   (some ⟨1, [.sc (.bool false)], r11.H⟩))
  (some ⟨1, [.sc (.bool false)], r1.H⟩) := by kernel_rfl
/- loop.example/g03211/spec.l08Pair -/
theorem e_sl08Pair_0 (C : Oracle) (x10 x13 x14 x15 x16 : Sl) (x17 y4_0 y4_1 y4_2 : Int) (y5_0 y5_1 y5_2 y6_0 y6_1 y6_2 y12_0 y12_1 y12_2 : Sl) (H : AH) : (procM P T C (.loop F.sl08Pair 0) [.sc (.sl x10), .sc (.sl x13), .sc (.sl x14), .sc (.sl x15), .sc (.sl x16), .sc (.int .i64 x17), .agg [.int .i64 y4_0, .int .i64 y4_1, .int .i64 y4_2], .agg [.sl y5_0, .sl y5_1, .sl y5_2], .agg [.sl y6_0, .sl y6_1, .sl y6_2], .agg [.sl y12_0, .sl y12_1, .sl y12_2]] H).run =
  cond (decide (x17 > 0))
  ((C (.loop F.sl08Pair 1) [.sc (.sl x13), .sc (.sl x14), .sc (.sl x15), .sc (.int .i64 0), .sc (.int .i64 0), .sc (.int .i64 0), .sc (.sl x16), .sc (.int .i64 (x16.n : Int)), .sc (.int .i64 0)] H).bind fun r52 =>
   cond (Nat.beq r52.e 4)
   ((nthP r52.vs 0).bind fun p53 =>
    p53.sc?.bind fun c54 =>
    (intAt .i64 [c54] 0).bind fun n55 =>
    (nthP r52.vs 1).bind fun p56 =>
    p56.sc?.bind fun c57 =>
    (intAt .i64 [c57] 0).bind fun n58 =>
    (nthP r52.vs 2).bind fun p59 =>
    p59.sc?.bind fun c60 =>
    (intAt .i64 [c60] 0).bind fun n61 =>
    (C (.fn F.sl05Get) [.agg [.int .i64 y4_0, .int .i64 y4_1, .int .i64 y4_2], .agg [.sl y12_0, .sl y12_1, .sl y12_2], .sc (.int .i64 n61)] r52.H).bind fun r62 =>
    (oneP r62.vs).bind fun p63 =>
    p63.sc?.bind fun c64 =>
    (slAt [c64] 0).bind fun s65 =>
    (C (.fn F.sl05Get) [.agg [.int .i64 y4_0, .int .i64 y4_1, .int .i64 y4_2], .agg [.sl y5_0, .sl y5_1, .sl y5_2], .sc (.int .i64 n55)] r62.H).bind fun r66 =>
    (oneP r66.vs).bind fun p67 =>
    p67.sc?.bind fun c68 =>
    (slAt [c68] 0).bind fun s69 =>
    (C (.fn F.sl05Get) [.agg [.int .i64 y4_0, .int .i64 y4_1, .int .i64 y4_2], .agg [.sl y6_0, .sl y6_1, .sl y6_2], .sc (.int .i64 n58)] r66.H).bind fun r70 =>
    (oneP r70.vs).bind fun p71 =>
    p71.sc?.bind fun c72 =>
    (slAt [c72] 0).bind fun s73 =>
    (C (.fn F.sl02Mul) [.agg [.int .i64 y4_0, .int .i64 y4_1, .int .i64 y4_2], .sc (.sl s69), .sc (.sl s73)] r70.H).bind fun r74 =>
    (oneP r74.vs).bind fun p75 =>
    p75.sc?.bind fun c76 =>
    (slAt [c76] 0).bind fun s77 =>
    (C (.fn F.sl02Add) [.agg [.int .i64 y4_0, .int .i64 y4_1, .int .i64 y4_2], .sc (.sl s65), .sc (.sl s77)] r74.H).bind fun r78 =>
    (oneP r78.vs).bind fun p79 =>
    p79.sc?.bind fun c80 =>
    (slAt [c80] 0).bind fun s81 =>
    (C (.fn F.sl05Put) [.agg [.int .i64 y4_0, .int .i64 y4_1, .int .i64 y4_2], .agg [.sl y12_0, .sl y12_1, .sl y12_2], .sc (.int .i64 n61), .sc (.sl s81)] r78.H).bind fun r82 =>
    (C (.loop F.sl08Pair 2) [.sc (.sl x10), .sc (.sl x16), .sc (.int .i64 (IntKind.wrap .i64 ((x16.n : Int) - 1)))] r82.H).bind fun r96 =>
    cond (Nat.beq r96.e 6)
    (C (.loop F.sl08Pair 0) [.sc (.sl x10), .sc (.sl x13), .sc (.sl x14), .sc (.sl x15), .sc (.sl x16), .sc (.int .i64 (IntKind.wrap .i64 (x17 - 1))), .agg [.int .i64 y4_0, .int .i64 y4_1, .int .i64 y4_2], .agg [.sl y5_0, .sl y5_1, .sl y5_2], .agg [.sl y6_0, .sl y6_1, .sl y6_2], .agg [.sl y12_0, .sl y12_1, .sl y12_2]] r96.H)
    (none))
   (none))
  (some ⟨2, [], H⟩) := by kernel_rfl
theorem e_sl08Pair_1 (C : Oracle) (x13 x14 x15 : Sl) (x18 x19 x20 : Int) (x59 : Sl) (x60 x61 : Int) (H : AH) : (procM P T C (.loop F.sl08Pair 1) [.sc (.sl x13), .sc (.sl x14), .sc (.sl x15), .sc (.int .i64 x18), .sc (.int .i64 x19), .sc (.int .i64 x20), .sc (.sl x59), .sc (.int .i64 x60), .sc (.int .i64 x61)] H).run =
  cond (decide (x61 < x60))
  ((ixA x59 x61 1).bind fun o40 =>
   (rdB H x59.b).bind fun c41 =>
   (intAt .i64 c41 o40).bind fun n42 =>
   (ixA x13 x61 1).bind fun o43 =>
   (rdB H x13.b).bind fun c44 =>
   (intAt .i64 c44 o43).bind fun n45 =>
   (ixA x14 x61 1).bind fun o46 =>
   (rdB H x14.b).bind fun c47 =>
   (intAt .i64 c47 o46).bind fun n48 =>
   (ixA x15 x61 1).bind fun o49 =>
   (rdB H x15.b).bind fun c50 =>
   (intAt .i64 c50 o49).bind fun n51 =>
   C (.loop F.sl08Pair 1) [.sc (.sl x13), .sc (.sl x14), .sc (.sl x15), .sc (.int .i64 (IntKind.wrap .i64 (x18 + (IntKind.wrap .i64 (n42 * n45))))), .sc (.int .i64 (IntKind.wrap .i64 (x19 + (IntKind.wrap .i64 (n42 * n48))))), .sc (.int .i64 (IntKind.wrap .i64 (x20 + (IntKind.wrap .i64 (n42 * n51))))), .sc (.sl x59), .sc (.int .i64 x60), .sc (.int .i64 (IntKind.wrap .i64 (x61 + 1)))] H)
  (some ⟨4, [.sc (.int .i64 x18), .sc (.int .i64 x19), .sc (.int .i64 x20)], H⟩) := by kernel_rfl
theorem e_sl08Pair_2 (C : Oracle) (x10 x16 : Sl) (x23 : Int) (H : AH) : (procM P T C (.loop F.sl08Pair 2) [.sc (.sl x10), .sc (.sl x16), .sc (.int .i64 x23)] H).run =
  cond (decide (x23 ≥ 0))
  ((ixA x16 x23 1).bind fun o83 =>
   (rdB H x16.b).bind fun c84 =>
   (intAt .i64 c84 o83).bind fun n85 =>
   (ixA x16 x23 1).bind fun o86 =>
   (putR H x16.b o86 [.int .i64 (IntKind.wrap .i64 (n85 + 1))]).bind fun H87 =>
   (ixA x16 x23 1).bind fun o88 =>
   (rdB H87 x16.b).bind fun c89 =>
   (intAt .i64 c89 o88).bind fun n90 =>
   (ixA x10 x23 1).bind fun o91 =>
   (rdB H87 x10.b).bind fun c92 =>
   (intAt .i64 c92 o91).bind fun n93 =>
   cond (decide (n90 < n93))
   (some ⟨6, [], H87⟩)
   ((ixA x16 x23 1).bind fun o94 =>
    (putR H87 x16.b o94 [.int .i64 0]).bind fun H95 =>
    C (.loop F.sl08Pair 2) [.sc (.sl x10), .sc (.sl x16), .sc (.int .i64 (IntKind.wrap .i64 (x23 - 1)))] H95))
  (some ⟨6, [], H⟩) := by kernel_rfl
theorem e_sl08Pair (C : Oracle) (a0_0 a0_1 a0_2 : Int) (a1_0 a1_1 a1_2 a2_0 a2_1 a2_2 a3 : Sl) (H : AH) : (procM P T C (.fn F.sl08Pair) [.agg [.int .i64 a0_0, .int .i64 a0_1, .int .i64 a0_2], .agg [.sl a1_0, .sl a1_1, .sl a1_2], .agg [.sl a2_0, .sl a2_1, .sl a2_2], .sc (.sl a3)] H).run =
  (C (.fn F.sl08Join) [.agg [.sl a1_0, .sl a1_1, .sl a1_2], .agg [.sl a2_0, .sl a2_1, .sl a2_2]] H).bind fun r1 =>
  (lenP r1.vs 3).bind fun _ =>
  (nthP r1.vs 0).bind fun p2 =>
  p2.sc?.bind fun c3 =>
  (slAt [c3] 0).bind fun s4 =>
  (nthP r1.vs 1).bind fun p5 =>
  p5.sc?.bind fun c6 =>
  (slAt [c6] 0).bind fun s7 =>
  (nthP r1.vs 2).bind fun p8 =>
  p8.sc?.bind fun c9 =>
  (boolAt [c9] 0).bind fun b10 =>
  (C (.fn F.sl08Keep) [.sc (.sl s4), .sc (.sl s7), .sc (.sl a3)] r1.H).bind fun r11 =>
  (oneP r11.vs).bind fun p12 =>
  p12.agg?.bind fun l13 =>
  cond (decide (l13.length = 3))
  ((slAt l13 0).bind fun s14 =>
   (slAt l13 1).bind fun s15 =>
   (slAt l13 2).bind fun s16 =>
   (C (.fn F.sl05Zero) [.agg [.int .i64 a0_0, .int .i64 a0_1, .int .i64 a0_2], .sc (.sl s14), .sc (.sl s15)] r11.H).bind fun r17 =>
   (oneP r17.vs).bind fun p18 =>
   p18.agg?.bind fun l19 =>
   cond (decide (l19.length = 3))
   ((slAt l19 0).bind fun s20 =>
    (slAt l19 1).bind fun s21 =>
    (slAt l19 2).bind fun s22 =>
    (C (.fn F.sl08Steps) [.agg [.sl a1_0, .sl a1_1, .sl a1_2], .sc (.sl s4)] r17.H).bind fun r23 =>
    (oneP r23.vs).bind fun p24 =>
    p24.sc?.bind fun c25 =>
    (slAt [c25] 0).bind fun s26 =>
    (C (.fn F.sl08Steps) [.agg [.sl a2_0, .sl a2_1, .sl a2_2], .sc (.sl s4)] r23.H).bind fun r27 =>
    (oneP r27.vs).bind fun p28 =>
    p28.sc?.bind fun c29 =>
    (slAt [c29] 0).bind fun s30 =>
    (C (.fn F.sl08Steps) [.agg [.sl s20, .sl s21, .sl s22], .sc (.sl s4)] r27.H).bind fun r31 =>
    (oneP r31.vs).bind fun p32 =>
    p32.sc?.bind fun c33 =>
    (slAt [c33] 0).bind fun s34 =>
    (mkB r31.H 1 8 [.int .i64 0] (s4.n : Int) (s4.n : Int)).bind fun m35 =>
    (C (.fn F.sl05Product) [.sc (.sl s7), .sc (.int .i64 65536)] m35.2).bind fun r36 =>
    (oneP r36.vs).bind fun p37 =>
    p37.sc?.bind fun c38 =>
    (intAt .i64 [c38] 0).bind fun n39 =>
    (C (.loop F.sl08Pair 0) [.sc (.sl s7), .sc (.sl s26), .sc (.sl s30), .sc (.sl s34), .sc (.sl m35.1), .sc (.int .i64 n39), .agg [.int .i64 a0_0, .int .i64 a0_1, .int .i64 a0_2], .agg [.sl a1_0, .sl a1_1, .sl a1_2], .agg [.sl a2_0, .sl a2_1, .sl a2_2], .agg [.sl s20, .sl s21, .sl s22]] r36.H).bind fun r97 =>
    cond (Nat.beq r97.e 2)
    (some ⟨1, [.agg [.sl s20, .sl s21, .sl s22]], r97.H⟩)
    (none))
   (none))
  (none) := by kernel_rfl
/- loop.example/g03211/spec.l06Permute -/
theorem e_sl06Permute_0 (C : Oracle) (x7 x8 x19 : Sl) (x20 x21 : Int) (y4_0 y4_1 y4_2 : Sl) (H : AH) : (procM P T C (.loop F.sl06Permute 0) [.sc (.sl x7), .sc (.sl x8), .sc (.sl x19), .sc (.int .i64 x20), .sc (.int .i64 x21), .agg [.sl y4_0, .sl y4_1, .sl y4_2]] H).run =
  cond (decide (x21 < x20))
  ((ixA x19 x21 1).bind fun o3 =>
   (rdB H x19.b).bind fun c4 =>
   (intAt .i64 c4 o3).bind fun n5 =>
   (C (.fn F.sl05Find) [.sc (.sl y4_0), .sc (.int .i64 n5)] H).bind fun r6 =>
   (oneP r6.vs).bind fun p7 =>
   p7.sc?.bind fun c8 =>
   (intAt .i64 [c8] 0).bind fun n9 =>
   (newB r6.H 1 [.int .i64 n9]).bind fun h10 =>
   (rng h10.2 h10.1 0 (1 * 1)).bind fun l11 =>
   (appB h10.2 1 8 x8 l11 1).bind fun m12 =>
   (ixA y4_1 n9 1).bind fun o13 =>
   (rdB m12.2 y4_1.b).bind fun c14 =>
   (intAt .i64 c14 o13).bind fun n15 =>
   (newB m12.2 1 [.int .i64 n15]).bind fun h16 =>
   (rng h16.2 h16.1 0 (1 * 1)).bind fun l17 =>
   (appB h16.2 1 8 x7 l17 1).bind fun m18 =>
   C (.loop F.sl06Permute 0) [.sc (.sl m18.1), .sc (.sl m12.1), .sc (.sl x19), .sc (.int .i64 x20), .sc (.int .i64 (IntKind.wrap .i64 (x21 + 1))), .agg [.sl y4_0, .sl y4_1, .sl y4_2]] m18.2)
  (some ⟨2, [.sc (.sl x7), .sc (.sl x8)], H⟩) := by kernel_rfl
theorem e_sl06Permute_1 (C : Oracle) (x7 x8 x13 : Sl) (x14 y3_0 y3_1 y3_2 : Int) (y4_0 y4_1 y4_2 y12_0 y12_1 y12_2 : Sl) (H : AH) : (procM P T C (.loop F.sl06Permute 1) [.sc (.sl x7), .sc (.sl x8), .sc (.sl x13), .sc (.int .i64 x14), .agg [.int .i64 y3_0, .int .i64 y3_1, .int .i64 y3_2], .agg [.sl y4_0, .sl y4_1, .sl y4_2], .agg [.sl y12_0, .sl y12_1, .sl y12_2]] H).run =
  (C (.fn F.sl05Product) [.sc (.sl x7), .sc (.int .i64 4096)] H).bind fun r31 =>
  (oneP r31.vs).bind fun p32 =>
  p32.sc?.bind fun c33 =>
  (intAt .i64 [c33] 0).bind fun n34 =>
  cond (decide (x14 < n34))
  ((C (.fn F.sl05Index) [.sc (.sl x7), .sc (.int .i64 x14)] r31.H).bind fun r35 =>
   (oneP r35.vs).bind fun p36 =>
   p36.sc?.bind fun c37 =>
   (slAt [c37] 0).bind fun s38 =>
   (C (.loop F.sl06Permute 2) [.sc (.sl x8), .sc (.sl x13), .sc (.sl s38), .sc (.int .i64 (s38.n : Int)), .sc (.int .i64 0)] r35.H).bind fun r47 =>
   cond (Nat.beq r47.e 6)
   ((C (.fn F.sl05Offset) [.sc (.sl y4_1), .sc (.sl x13)] r47.H).bind fun r48 =>
    (oneP r48.vs).bind fun p49 =>
    p49.sc?.bind fun c50 =>
    (intAt .i64 [c50] 0).bind fun n51 =>
    (C (.fn F.sl05Get) [.agg [.int .i64 y3_0, .int .i64 y3_1, .int .i64 y3_2], .agg [.sl y4_0, .sl y4_1, .sl y4_2], .sc (.int .i64 n51)] r48.H).bind fun r52 =>
    (oneP r52.vs).bind fun p53 =>
    p53.sc?.bind fun c54 =>
    (slAt [c54] 0).bind fun s55 =>
    (rng r52.H s55.b s55.o (s55.n * 1)).bind fun l56 =>
    (appB r52.H 1 8 y12_2 l56 s55.n).bind fun m57 =>
    C (.loop F.sl06Permute 1) [.sc (.sl x7), .sc (.sl x8), .sc (.sl x13), .sc (.int .i64 (IntKind.wrap .i64 (x14 + 1))), .agg [.int .i64 y3_0, .int .i64 y3_1, .int .i64 y3_2], .agg [.sl y4_0, .sl y4_1, .sl y4_2], .agg [.sl y12_0, .sl y12_1, .sl m57.1]] m57.2)
   (none))
  (some ⟨4, [.agg [.sl y12_0, .sl y12_1, .sl y12_2]], r31.H⟩) := by kernel_rfl
theorem e_sl06Permute_2 (C : Oracle) (x8 x13 x57 : Sl) (x58 x59 : Int) (H : AH) : (procM P T C (.loop F.sl06Permute 2) [.sc (.sl x8), .sc (.sl x13), .sc (.sl x57), .sc (.int .i64 x58), .sc (.int .i64 x59)] H).run =
  cond (decide (x59 < x58))
  ((ixA x57 x59 1).bind fun o39 =>
   (rdB H x57.b).bind fun c40 =>
   (intAt .i64 c40 o39).bind fun n41 =>
   (ixA x8 x59 1).bind fun o42 =>
   (rdB H x8.b).bind fun c43 =>
   (intAt .i64 c43 o42).bind fun n44 =>
   (ixA x13 n44 1).bind fun o45 =>
   (putR H x13.b o45 [.int .i64 n41]).bind fun H46 =>
   C (.loop F.sl06Permute 2) [.sc (.sl x8), .sc (.sl x13), .sc (.sl x57), .sc (.int .i64 x58), .sc (.int .i64 (IntKind.wrap .i64 (x59 + 1)))] H46)
  (some ⟨6, [], H⟩) := by kernel_rfl
theorem e_sl06Permute (C : Oracle) (a0_0 a0_1 a0_2 : Int) (a1_0 a1_1 a1_2 a2 : Sl) (H : AH) : (procM P T C (.fn F.sl06Permute) [.agg [.int .i64 a0_0, .int .i64 a0_1, .int .i64 a0_2], .agg [.sl a1_0, .sl a1_1, .sl a1_2], .sc (.sl a2)] H).run =
  (newB H 1 []).bind fun h1 =>
  (newB h1.2 1 []).bind fun h2 =>
  (C (.loop F.sl06Permute 0) [.sc (.sl ⟨h1.1, 0, 0, 0, true⟩), .sc (.sl ⟨h2.1, 0, 0, 0, true⟩), .sc (.sl a2), .sc (.int .i64 (a2.n : Int)), .sc (.int .i64 0), .agg [.sl a1_0, .sl a1_1, .sl a1_2]] h2.2).bind fun r19 =>
  cond (Nat.beq r19.e 2)
  ((nthP r19.vs 0).bind fun p20 =>
   p20.sc?.bind fun c21 =>
   (slAt [c21] 0).bind fun s22 =>
   (nthP r19.vs 1).bind fun p23 =>
   p23.sc?.bind fun c24 =>
   (slAt [c24] 0).bind fun s25 =>
   (C (.fn F.sl05Ints) [.sc (.sl a2)] r19.H).bind fun r26 =>
   (oneP r26.vs).bind fun p27 =>
   p27.sc?.bind fun c28 =>
   (slAt [c28] 0).bind fun s29 =>
   (mkB r26.H 1 8 [.int .i64 0] (s25.n : Int) (s25.n : Int)).bind fun m30 =>
   (C (.loop F.sl06Permute 1) [.sc (.sl s22), .sc (.sl s25), .sc (.sl m30.1), .sc (.int .i64 0), .agg [.int .i64 a0_0, .int .i64 a0_1, .int .i64 a0_2], .agg [.sl a1_0, .sl a1_1, .sl a1_2], .agg [.sl s29, .sl s22, .sl ⟨0, 0, 0, 0, true⟩]] m30.2).bind fun r58 =>
   cond (Nat.beq r58.e 4)
   (((nthP r58.vs 0).bind PV.agg?).bind fun l59 =>
    cond (decide (l59.length = 3))
    ((slAt l59 0).bind fun s60 =>
     (slAt l59 1).bind fun s61 =>
     (slAt l59 2).bind fun s62 =>
     some ⟨1, [.agg [.sl s60, .sl s61, .sl s62]], r58.H⟩)
    (none))
   (none))
  (none) := by kernel_rfl
/- loop.example/g03211/spec.l08Sum -/
theorem e_sl08Sum (C : Oracle) (a0_0 a0_1 a0_2 : Int) (a1_0 a1_1 a1_2 a2 : Sl) (H : AH) : (procM P T C (.fn F.sl08Sum) [.agg [.int .i64 a0_0, .int .i64 a0_1, .int .i64 a0_2], .agg [.sl a1_0, .sl a1_1, .sl a1_2], .sc (.sl a2)] H).run =
  (C (.fn F.sl02One) [.agg [.int .i64 a0_0, .int .i64 a0_1, .int .i64 a0_2]] H).bind fun r1 =>
  (oneP r1.vs).bind fun p2 =>
  p2.sc?.bind fun c3 =>
  (slAt [c3] 0).bind fun s4 =>
  (C (.fn F.sl08Pair) [.agg [.int .i64 a0_0, .int .i64 a0_1, .int .i64 a0_2], .agg [.sl a1_0, .sl a1_1, .sl a1_2], .agg [.sl ⟨0, 0, 0, 0, true⟩, .sl ⟨0, 0, 0, 0, true⟩, .sl s4], .sc (.sl a2)] r1.H).bind fun r5 =>
  (oneP r5.vs).bind fun p6 =>
  p6.agg?.bind fun l7 =>
  cond (decide (l7.length = 3))
  ((slAt l7 0).bind fun s8 =>
   (slAt l7 1).bind fun s9 =>
   (slAt l7 2).bind fun s10 =>
   some ⟨1, [.agg [.sl s8, .sl s9, .sl s10]], r5.H⟩)
  (none) := by kernel_rfl
/- loop.example/g03211/impl.ContractPair -/
theorem e_iContractPair_0 (C : Oracle) (x10 x11 x58 : Sl) (x59 x60 : Int) (y14_0 y14_1 y14_2 : Sl) (H : AH) : (procM P T C (.loop F.iContractPair 0) [.sc (.sl x10), .sc (.sl x11), .sc (.sl x58), .sc (.int .i64 x59), .sc (.int .i64 x60), .agg [.sl y14_0, .sl y14_1, .sl y14_2]] H).run =
  cond (decide (x60 < x59))
  ((ixA x58 x60 1).bind fun o28 =>
   (rdB H x58.b).bind fun c29 =>
   (intAt .i64 c29 o28).bind fun n30 =>
   (C (.loop F.iContractPair 1) [.sc (.sl x11), .sc (.int .i64 x60), .sc (.int .i64 n30), .sc (.sl x10), .sc (.int .i64 (x10.n : Int)), .sc (.int .i64 0), .agg [.sl y14_0, .sl y14_1, .sl y14_2]] H).bind fun r39 =>
   cond (Nat.beq r39.e 4)
   (C (.loop F.iContractPair 0) [.sc (.sl x10), .sc (.sl x11), .sc (.sl x58), .sc (.int .i64 x59), .sc (.int .i64 (IntKind.wrap .i64 (x60 + 1))), .agg [.sl y14_0, .sl y14_1, .sl y14_2]] r39.H)
   (none))
  (some ⟨2, [], H⟩) := by kernel_rfl
theorem e_iContractPair_1 (C : Oracle) (x11 : Sl) (x15 x16 : Int) (x65 : Sl) (x66 x67 : Int) (y14_0 y14_1 y14_2 : Sl) (H : AH) : (procM P T C (.loop F.iContractPair 1) [.sc (.sl x11), .sc (.int .i64 x15), .sc (.int .i64 x16), .sc (.sl x65), .sc (.int .i64 x66), .sc (.int .i64 x67), .agg [.sl y14_0, .sl y14_1, .sl y14_2]] H).run =
  cond (decide (x67 < x66))
  ((ixA x65 x67 1).bind fun o31 =>
   (rdB H x65.b).bind fun c32 =>
   (intAt .i64 c32 o31).bind fun n33 =>
   cond (n33 == x16)
   ((ixA x11 x67 1).bind fun o34 =>
    (rdB H x11.b).bind fun c35 =>
    (intAt .i64 c35 o34).bind fun n36 =>
    (ixA y14_1 x15 1).bind fun o37 =>
    (putR H y14_1.b o37 [.int .i64 n36]).bind fun H38 =>
    C (.loop F.iContractPair 1) [.sc (.sl x11), .sc (.int .i64 x15), .sc (.int .i64 x16), .sc (.sl x65), .sc (.int .i64 x66), .sc (.int .i64 (IntKind.wrap .i64 (x67 + 1))), .agg [.sl y14_0, .sl y14_1, .sl y14_2]] H38)
   (C (.loop F.iContractPair 1) [.sc (.sl x11), .sc (.int .i64 x15), .sc (.int .i64 x16), .sc (.sl x65), .sc (.int .i64 x66), .sc (.int .i64 (IntKind.wrap .i64 (x67 + 1))), .agg [.sl y14_0, .sl y14_1, .sl y14_2]] H))
  (some ⟨4, [], H⟩) := by kernel_rfl
theorem e_iContractPair_2 (C : Oracle) (x11 x19 x20 x21 x22 x23 : Sl) (y4_0 y4_1 y4_2 : Int) (y5_0 y5_1 y5_2 y6_0 y6_1 y6_2 y8_0 y8_1 y8_2 y14_0 y14_1 y14_2 : Sl) (H : AH) : (procM P T C (.loop F.iContractPair 2) [.sc (.sl x11), .sc (.sl x19), .sc (.sl x20), .sc (.sl x21), .sc (.sl x22), .sc (.sl x23), .agg [.int .i64 y4_0, .int .i64 y4_1, .int .i64 y4_2], .agg [.sl y5_0, .sl y5_1, .sl y5_2], .agg [.sl y6_0, .sl y6_1, .sl y6_2], .agg [.sl y8_0, .sl y8_1, .sl y8_2], .agg [.sl y14_0, .sl y14_1, .sl y14_2]] H).run =
  (C (.fn F.idotOf) [.sc (.sl x19), .sc (.sl x22)] H).bind fun r73 =>
  (oneP r73.vs).bind fun p74 =>
  p74.sc?.bind fun c75 =>
  (intAt .i64 [c75] 0).bind fun n76 =>
  (C (.fn F.irawElem) [.agg [.int .i64 y4_0, .int .i64 y4_1, .int .i64 y4_2], .agg [.sl y5_0, .sl y5_1, .sl y5_2], .sc (.int .i64 n76)] r73.H).bind fun r77 =>
  (oneP r77.vs).bind fun p78 =>
  p78.sc?.bind fun c79 =>
  (slAt [c79] 0).bind fun s80 =>
  (C (.fn F.idotOf) [.sc (.sl x20), .sc (.sl x22)] r77.H).bind fun r81 =>
  (oneP r81.vs).bind fun p82 =>
  p82.sc?.bind fun c83 =>
  (intAt .i64 [c83] 0).bind fun n84 =>
  (C (.fn F.irawElem) [.agg [.int .i64 y4_0, .int .i64 y4_1, .int .i64 y4_2], .agg [.sl y6_0, .sl y6_1, .sl y6_2], .sc (.int .i64 n84)] r81.H).bind fun r85 =>
  (oneP r85.vs).bind fun p86 =>
  p86.sc?.bind fun c87 =>
  (slAt [c87] 0).bind fun s88 =>
  (C (.fn F.imulInto) [.agg [.int .i64 y4_0, .int .i64 y4_1, .int .i64 y4_2], .sc (.sl x23), .sc (.sl s80), .sc (.sl s88)] r85.H).bind fun r89 =>
  (C (.fn F.idotOf) [.sc (.sl x21), .sc (.sl x22)] r89.H).bind fun r90 =>
  (oneP r90.vs).bind fun p91 =>
  p91.sc?.bind fun c92 =>
  (intAt .i64 [c92] 0).bind fun n93 =>
  (C (.fn F.irawElem) [.agg [.int .i64 y4_0, .int .i64 y4_1, .int .i64 y4_2], .agg [.sl y14_0, .sl y14_1, .sl y14_2], .sc (.int .i64 n93)] r90.H).bind fun r94 =>
  (oneP r94.vs).bind fun p95 =>
  p95.sc?.bind fun c96 =>
  (slAt [c96] 0).bind fun s97 =>
  (C (.fn F.iaddInto) [.agg [.int .i64 y4_0, .int .i64 y4_1, .int .i64 y4_2], .sc (.sl s97), .sc (.sl x23)] r94.H).bind fun r98 =>
  (C (.fn F.inextIndex) [.sc (.sl x11), .sc (.sl x22)] r98.H).bind fun r99 =>
  (oneP r99.vs).bind fun p100 =>
  p100.sc?.bind fun c101 =>
  (boolAt [c101] 0).bind fun b102 =>
  cond (!b102)
  (some ⟨1, [.sc (.bool true), .agg [.sl y14_0, .sl y14_1, .sl y14_2]], r99.H⟩)
  (C (.loop F.iContractPair 2) [.sc (.sl x11), .sc (.sl x19), .sc (.sl x20), .sc (.sl x21), .sc (.sl x22), .sc (.sl x23), .agg [.int .i64 y4_0, .int .i64 y4_1, .int .i64 y4_2], .agg [.sl y5_0, .sl y5_1, .sl y5_2], .agg [.sl y6_0, .sl y6_1, .sl y6_2], .agg [.sl y8_0, .sl y8_1, .sl y8_2], .agg [.sl y14_0, .sl y14_1, .sl y14_2]] r99.H) := by kernel_rfl
theorem e_iContractPair (C : Oracle) (a0_0 a0_1 a0_2 : Int) (a1_0 a1_1 a1_2 a2_0 a2_1 a2_2 a3 : Sl) (H : AH) : (procM P T C (.fn F.iContractPair) [.agg [.int .i64 a0_0, .int .i64 a0_1, .int .i64 a0_2], .agg [.sl a1_0, .sl a1_1, .sl a1_2], .agg [.sl a2_0, .sl a2_1, .sl a2_2], .sc (.sl a3)] H).run =
  (C (.fn F.iTensorOk) [.agg [.int .i64 a0_0, .int .i64 a0_1, .int .i64 a0_2], .agg [.sl a1_0, .sl a1_1, .sl a1_2]] H).bind fun r1 =>
  (oneP r1.vs).bind fun p2 =>
  p2.sc?.bind fun c3 =>
  (boolAt [c3] 0).bind fun b4 =>
  cond (!b4)
  (some ⟨1, [.agg [.sl ⟨0, 0, 0, 0, true⟩, .sl ⟨0, 0, 0, 0, true⟩, .sl ⟨0, 0, 0, 0, true⟩], .sc (.bool false)], r1.H⟩)
  ((C (.fn F.iTensorOk) [.agg [.int .i64 a0_0, .int .i64 a0_1, .int .i64 a0_2], .agg [.sl a2_0, .sl a2_1, .sl a2_2]] r1.H).bind fun r5 =>
   (oneP r5.vs).bind fun p6 =>
   p6.sc?.bind fun c7 =>
   (boolAt [c7] 0).bind fun b8 =>
   cond (!b8)
   (some ⟨1, [.agg [.sl ⟨0, 0, 0, 0, true⟩, .sl ⟨0, 0, 0, 0, true⟩, .sl ⟨0, 0, 0, 0, true⟩], .sc (.bool false)], r5.H⟩)
   ((C (.fn F.ijoinAxes) [.agg [.sl a1_0, .sl a1_1, .sl a1_2], .agg [.sl a2_0, .sl a2_1, .sl a2_2]] r5.H).bind fun r9 =>
    (lenP r9.vs 3).bind fun _ =>
    (nthP r9.vs 0).bind fun p10 =>
    p10.sc?.bind fun c11 =>
    (slAt [c11] 0).bind fun s12 =>
    (nthP r9.vs 1).bind fun p13 =>
    p13.sc?.bind fun c14 =>
    (slAt [c14] 0).bind fun s15 =>
    (nthP r9.vs 2).bind fun p16 =>
    p16.sc?.bind fun c17 =>
    (boolAt [c17] 0).bind fun b18 =>
    cond (!b18)
    (some ⟨1, [.agg [.sl ⟨0, 0, 0, 0, true⟩, .sl ⟨0, 0, 0, 0, true⟩, .sl ⟨0, 0, 0, 0, true⟩], .sc (.bool false)], r9.H⟩)
    ((C (.fn F.iproductOf) [.sc (.sl s15)] r9.H).bind fun r19 =>
     (oneP r19.vs).bind fun p20 =>
     p20.sc?.bind fun c21 =>
     (intAt .i64 [c21] 0).bind fun n22 =>
     cond (decide (n22 > 65536))
     (some ⟨1, [.agg [.sl ⟨0, 0, 0, 0, true⟩, .sl ⟨0, 0, 0, 0, true⟩, .sl ⟨0, 0, 0, 0, true⟩], .sc (.bool false)], r19.H⟩)
     ((C (.fn F.ikeptOnly) [.sc (.sl s12), .sc (.sl a3)] r19.H).bind fun r23 =>
      (oneP r23.vs).bind fun p24 =>
      p24.sc?.bind fun c25 =>
      (slAt [c25] 0).bind fun s26 =>
      (mkB r23.H 1 8 [.int .i64 0] (s26.n : Int) (s26.n : Int)).bind fun m27 =>
      (C (.loop F.iContractPair 0) [.sc (.sl s12), .sc (.sl s15), .sc (.sl s26), .sc (.int .i64 (s26.n : Int)), .sc (.int .i64 0), .agg [.sl s26, .sl m27.1, .sl ⟨0, 0, 0, 0, true⟩]] m27.2).bind fun r40 =>
      cond (Nat.beq r40.e 2)
      ((C (.fn F.iTensorSize) [.agg [.sl s26, .sl m27.1, .sl ⟨0, 0, 0, 0, true⟩]] r40.H).bind fun r41 =>
       (oneP r41.vs).bind fun p42 =>
       p42.sc?.bind fun c43 =>
       (intAt .i64 [c43] 0).bind fun n44 =>
       cond (n44 == (-1))
       (some ⟨1, [.agg [.sl ⟨0, 0, 0, 0, true⟩, .sl ⟨0, 0, 0, 0, true⟩, .sl ⟨0, 0, 0, 0, true⟩], .sc (.bool false)], r41.H⟩)
       ((C (.fn F.irawZero) [.agg [.int .i64 a0_0, .int .i64 a0_1, .int .i64 a0_2]] r41.H).bind fun r45 =>
        (oneP r45.vs).bind fun p46 =>
        p46.sc?.bind fun c47 =>
        (slAt [c47] 0).bind fun s48 =>
        (C (.fn F.ifillTensor) [.agg [.int .i64 a0_0, .int .i64 a0_1, .int .i64 a0_2], .sc (.sl s26), .sc (.sl m27.1), .sc (.sl s48)] r45.H).bind fun r49 =>
        (oneP r49.vs).bind fun p50 =>
        p50.agg?.bind fun l51 =>
        cond (decide (l51.length = 3))
        ((slAt l51 0).bind fun s52 =>
         (slAt l51 1).bind fun s53 =>
         (slAt l51 2).bind fun s54 =>
         (C (.fn F.istridesOf) [.agg [.sl a1_0, .sl a1_1, .sl a1_2], .sc (.sl s12)] r49.H).bind fun r55 =>
         (oneP r55.vs).bind fun p56 =>
         p56.sc?.bind fun c57 =>
         (slAt [c57] 0).bind fun s58 =>
         (C (.fn F.istridesOf) [.agg [.sl a2_0, .sl a2_1, .sl a2_2], .sc (.sl s12)] r55.H).bind fun r59 =>
         (oneP r59.vs).bind fun p60 =>
         p60.sc?.bind fun c61 =>
         (slAt [c61] 0).bind fun s62 =>
         (C (.fn F.istridesOf) [.agg [.sl s52, .sl s53, .sl s54], .sc (.sl s12)] r59.H).bind fun r63 =>
         (oneP r63.vs).bind fun p64 =>
         p64.sc?.bind fun c65 =>
         (slAt [c65] 0).bind fun s66 =>
         (mkB r63.H 1 8 [.int .i64 0] (s12.n : Int) (s12.n : Int)).bind fun m67 =>
         (C (.fn F.irawWidth) [.agg [.int .i64 a0_0, .int .i64 a0_1, .int .i64 a0_2]] m67.2).bind fun r68 =>
         (oneP r68.vs).bind fun p69 =>
         p69.sc?.bind fun c70 =>
         (intAt .i64 [c70] 0).bind fun n71 =>
         (mkB r68.H 1 8 [.int .i64 0] n71 n71).bind fun m72 =>
         (C (.loop F.iContractPair 2) [.sc (.sl s15), .sc (.sl s58), .sc (.sl s62), .sc (.sl s66), .sc (.sl m67.1), .sc (.sl m72.1), .agg [.int .i64 a0_0, .int .i64 a0_1, .int .i64 a0_2], .agg [.sl a1_0, .sl a1_1, .sl a1_2], .agg [.sl a2_0, .sl a2_1, .sl a2_2], .agg [.sl ⟨0, 0, 0, 0, true⟩, .sl ⟨0, 0, 0, 0, true⟩, .sl ⟨0, 0, 0, 0, true⟩], .agg [.sl s52, .sl s53, .sl s54]] m72.2).bind fun r103 =>
         cond (Nat.beq r103.e 1)
         ((nthP r103.vs 0).bind fun p104 =>
          p104.sc?.bind fun c105 =>
          (boolAt [c105] 0).bind fun b106 =>
          ((nthP r103.vs 1).bind PV.agg?).bind fun l107 =>
          cond (decide (l107.length = 3))
          ((slAt l107 0).bind fun s108 =>
           (slAt l107 1).bind fun s109 =>
           (slAt l107 2).bind fun s110 =>
           some ⟨1, [.agg [.sl s108, .sl s109, .sl s110], .sc (.bool b106)], r103.H⟩)
          (none))
         (none))
        (none)))
      (none))))) := by kernel_rfl
/- loop.example/g03211/impl.rawOne -/
theorem e_irawOne (C : Oracle) (a0_0 a0_1 a0_2 : Int) (H : AH) : (procM P T C (.fn F.irawOne) [.agg [.int .i64 a0_0, .int .i64 a0_1, .int .i64 a0_2]] H).run =
  (C (.fn F.irawWidth) [.agg [.int .i64 a0_0, .int .i64 a0_1, .int .i64 a0_2]] H).bind fun r1 =>
  (oneP r1.vs).bind fun p2 =>
  p2.sc?.bind fun c3 =>
  (intAt .i64 [c3] 0).bind fun n4 =>
  (mkB r1.H 1 8 [.int .i64 0] n4 n4).bind fun m5 =>
  cond (a0_0 == 4)
  ((ixA m5.1 0 1).bind fun o6 =>
   (putR m5.2 m5.1.b o6 [.int .i64 0]).bind fun H7 =>
   some ⟨1, [.sc (.sl m5.1)], H7⟩)
  (cond (a0_0 == 5)
   ((ixA m5.1 0 1).bind fun o8 =>
    (putR m5.2 m5.1.b o8 [.int .i64 a0_1]).bind fun H9 =>
    some ⟨1, [.sc (.sl m5.1)], H9⟩)
   (cond (a0_0 == 6)
    ((C (.fn F.irawTop) [.agg [.int .i64 a0_0, .int .i64 a0_1, .int .i64 a0_2]] m5.2).bind fun r10 =>
     (oneP r10.vs).bind fun p11 =>
     p11.sc?.bind fun c12 =>
     (intAt .i64 [c12] 0).bind fun n13 =>
     (ixA m5.1 0 1).bind fun o14 =>
     (putR r10.H m5.1.b o14 [.int .i64 n13]).bind fun H15 =>
     some ⟨1, [.sc (.sl m5.1)], H15⟩)
    ((ixA m5.1 0 1).bind fun o16 =>
     (putR m5.2 m5.1.b o16 [.int .i64 1]).bind fun H17 =>
     some ⟨1, [.sc (.sl m5.1)], H17⟩))) := by kernel_rfl
/- loop.example/g03211/impl.allIn -/
theorem e_iallIn_0 (C : Oracle) (x1 x7 : Sl) (x8 x9 : Int) (H : AH) : (procM P T C (.loop F.iallIn 0) [.sc (.sl x1), .sc (.sl x7), .sc (.int .i64 x8), .sc (.int .i64 x9)] H).run =
  cond (decide (x9 < x8))
  ((ixA x7 x9 1).bind fun o1 =>
   (rdB H x7.b).bind fun c2 =>
   (intAt .i64 c2 o1).bind fun n3 =>
   (C (.fn F.ihasInt) [.sc (.sl x1), .sc (.int .i64 n3)] H).bind fun r4 =>
   (oneP r4.vs).bind fun p5 =>
   p5.sc?.bind fun c6 =>
   (boolAt [c6] 0).bind fun b7 =>
   cond (!b7)
   (some ⟨1, [.sc (.bool false)], r4.H⟩)
   (C (.loop F.iallIn 0) [.sc (.sl x1), .sc (.sl x7), .sc (.int .i64 x8), .sc (.int .i64 (IntKind.wrap .i64 (x9 + 1)))] r4.H))
  (some ⟨2, [], H⟩) := by kernel_rfl
theorem e_iallIn (C : Oracle) (a0 a1 : Sl) (H : AH) : (procM P T C (.fn F.iallIn) [.sc (.sl a0), .sc (.sl a1)] H).run =
  (C (.loop F.iallIn 0) [.sc (.sl a1), .sc (.sl a0), .sc (.int .i64 (a0.n : Int)), .sc (.int .i64 0)] H).bind fun r8 =>
  cond (Nat.beq r8.e 1)
  ((nthP r8.vs 0).bind fun p9 =>
   p9.sc?.bind fun c10 =>
   (boolAt [c10] 0).bind fun b11 =>
   some ⟨1, [.sc (.bool b11)], r8.H⟩)
  (cond (Nat.beq r8.e 2)
   (some ⟨1, [.sc (.bool true)], r8.H⟩)
   (none)) := by kernel_rfl
/- loop.example/g03211/impl.PermuteTensor -/
theorem e_iPermuteTensor (C : Oracle) (a0_0 a0_1 a0_2 : Int) (a1_0 a1_1 a1_2 a2 : Sl) (H : AH) : (procM P T C (.fn F.iPermuteTensor) [.agg [.int .i64 a0_0, .int .i64 a0_1, .int .i64 a0_2], .agg [.sl a1_0, .sl a1_1, .sl a1_2], .sc (.sl a2)] H).run =
  (C (.fn F.iTensorOk) [.agg [.int .i64 a0_0, .int .i64 a0_1, .int .i64 a0_2], .agg [.sl a1_0, .sl a1_1, .sl a1_2]] H).bind fun r1 =>
  (oneP r1.vs).bind fun p2 =>
  p2.sc?.bind fun c3 =>
  (boolAt [c3] 0).bind fun b4 =>
  cond (!b4)
  (some ⟨1, [.agg [.sl ⟨0, 0, 0, 0, true⟩, .sl ⟨0, 0, 0, 0, true⟩, .sl ⟨0, 0, 0, 0, true⟩], .sc (.bool false)], r1.H⟩)
  ((C (.fn F.isameLabels) [.sc (.sl a1_0), .sc (.sl a2)] r1.H).bind fun r5 =>
   (oneP r5.vs).bind fun p6 =>
   p6.sc?.bind fun c7 =>
   (boolAt [c7] 0).bind fun b8 =>
   cond (!b8)
   (some ⟨1, [.agg [.sl ⟨0, 0, 0, 0, true⟩, .sl ⟨0, 0, 0, 0, true⟩, .sl ⟨0, 0, 0, 0, true⟩], .sc (.bool false)], r5.H⟩)
   ((C (.fn F.irawPermute) [.agg [.int .i64 a0_0, .int .i64 a0_1, .int .i64 a0_2], .agg [.sl a1_0, .sl a1_1, .sl a1_2], .sc (.sl a2)] r5.H).bind fun r9 =>
    (oneP r9.vs).bind fun p10 =>
    p10.agg?.bind fun l11 =>
    cond (decide (l11.length = 3))
    ((slAt l11 0).bind fun s12 =>
     (slAt l11 1).bind fun s13 =>
     (slAt l11 2).bind fun s14 =>
     some ⟨1, [.agg [.sl s12, .sl s13, .sl s14], .sc (.bool true)], r9.H⟩)
    (none))) := by kernel_rfl
/- loop.example/g03211/impl.SumLabels -/
theorem e_iSumLabels (C : Oracle) (a0_0 a0_1 a0_2 : Int) (a1_0 a1_1 a1_2 a2 : Sl) (H : AH) : (procM P T C (.fn F.iSumLabels) [.agg [.int .i64 a0_0, .int .i64 a0_1, .int .i64 a0_2], .agg [.sl a1_0, .sl a1_1, .sl a1_2], .sc (.sl a2)] H).run =
  (C (.fn F.iTensorOk) [.agg [.int .i64 a0_0, .int .i64 a0_1, .int .i64 a0_2], .agg [.sl a1_0, .sl a1_1, .sl a1_2]] H).bind fun r1 =>
  (oneP r1.vs).bind fun p2 =>
  p2.sc?.bind fun c3 =>
  (boolAt [c3] 0).bind fun b4 =>
  cond (!b4)
  (some ⟨1, [.agg [.sl ⟨0, 0, 0, 0, true⟩, .sl ⟨0, 0, 0, 0, true⟩, .sl ⟨0, 0, 0, 0, true⟩]], r1.H⟩)
  ((C (.fn F.iscalarOne) [.agg [.int .i64 a0_0, .int .i64 a0_1, .int .i64 a0_2]] r1.H).bind fun r5 =>
   (oneP r5.vs).bind fun p6 =>
   p6.agg?.bind fun l7 =>
   cond (decide (l7.length = 3))
   ((slAt l7 0).bind fun s8 =>
    (slAt l7 1).bind fun s9 =>
    (slAt l7 2).bind fun s10 =>
    (C (.fn F.iContractPair) [.agg [.int .i64 a0_0, .int .i64 a0_1, .int .i64 a0_2], .agg [.sl a1_0, .sl a1_1, .sl a1_2], .agg [.sl s8, .sl s9, .sl s10], .sc (.sl a2)] r5.H).bind fun r11 =>
    (lenP r11.vs 2).bind fun _ =>
    (nthP r11.vs 0).bind fun p12 =>
    p12.agg?.bind fun l13 =>
    cond (decide (l13.length = 3))
    ((slAt l13 0).bind fun s14 =>
     (slAt l13 1).bind fun s15 =>
     (slAt l13 2).bind fun s16 =>
     (nthP r11.vs 1).bind fun p17 =>
     p17.sc?.bind fun c18 =>
     (boolAt [c18] 0).bind fun b19 =>
     some ⟨1, [.agg [.sl s14, .sl s15, .sl s16]], r11.H⟩)
    (none))
   (none)) := by kernel_rfl
/- loop.example/g03211/spec.l05Zero -/
theorem e_sl05Zero_0 (C : Oracle) (x8 y3_0 y3_1 y3_2 : Int) (y7_0 y7_1 y7_2 : Sl) (H : AH) : (procM P T C (.loop F.sl05Zero 0) [.sc (.int .i64 x8), .agg [.int .i64 y3_0, .int .i64 y3_1, .int .i64 y3_2], .agg [.sl y7_0, .sl y7_1, .sl y7_2]] H).run =
  cond (decide (x8 > 0))
  ((C (.fn F.sl02Zero) [.agg [.int .i64 y3_0, .int .i64 y3_1, .int .i64 y3_2]] H).bind fun r13 =>
   (oneP r13.vs).bind fun p14 =>
   p14.sc?.bind fun c15 =>
   (slAt [c15] 0).bind fun s16 =>
   (rng r13.H s16.b s16.o (s16.n * 1)).bind fun l17 =>
   (appB r13.H 1 8 y7_2 l17 s16.n).bind fun m18 =>
   C (.loop F.sl05Zero 0) [.sc (.int .i64 (IntKind.wrap .i64 (x8 - 1))), .agg [.int .i64 y3_0, .int .i64 y3_1, .int .i64 y3_2], .agg [.sl y7_0, .sl y7_1, .sl m18.1]] m18.2)
  (some ⟨2, [.agg [.sl y7_0, .sl y7_1, .sl y7_2]], H⟩) := by kernel_rfl
theorem e_sl05Zero (C : Oracle) (a0_0 a0_1 a0_2 : Int) (a1 a2 : Sl) (H : AH) : (procM P T C (.fn F.sl05Zero) [.agg [.int .i64 a0_0, .int .i64 a0_1, .int .i64 a0_2], .sc (.sl a1), .sc (.sl a2)] H).run =
  (C (.fn F.sl05Ints) [.sc (.sl a1)] H).bind fun r1 =>
  (oneP r1.vs).bind fun p2 =>
  p2.sc?.bind fun c3 =>
  (slAt [c3] 0).bind fun s4 =>
  (C (.fn F.sl05Ints) [.sc (.sl a2)] r1.H).bind fun r5 =>
  (oneP r5.vs).bind fun p6 =>
  p6.sc?.bind fun c7 =>
  (slAt [c7] 0).bind fun s8 =>
  (C (.fn F.sl05Product) [.sc (.sl a2), .sc (.int .i64 4096)] r5.H).bind fun r9 =>
  (oneP r9.vs).bind fun p10 =>
  p10.sc?.bind fun c11 =>
  (intAt .i64 [c11] 0).bind fun n12 =>
  (C (.loop F.sl05Zero 0) [.sc (.int .i64 n12), .agg [.int .i64 a0_0, .int .i64 a0_1, .int .i64 a0_2], .agg [.sl s4, .sl s8, .sl ⟨0, 0, 0, 0, true⟩]] r9.H).bind fun r19 =>
  cond (Nat.beq r19.e 2)
  (((nthP r19.vs 0).bind PV.agg?).bind fun l20 =>
   cond (decide (l20.length = 3))
   ((slAt l20 0).bind fun s21 =>
    (slAt l20 1).bind fun s22 =>
    (slAt l20 2).bind fun s23 =>
    some ⟨1, [.agg [.sl s21, .sl s22, .sl s23]], r19.H⟩)
   (none))
  (none) := by kernel_rfl
/- loop.example/g03211/spec.l08Steps -/
theorem e_sl08Steps_0 (C : Oracle) (x1 x5 : Sl) (x6 x7 : Int) (y2_0 y2_1 y2_2 : Sl) (H : AH) : (procM P T C (.loop F.sl08Steps 0) [.sc (.sl x1), .sc (.sl x5), .sc (.int .i64 x6), .sc (.int .i64 x7), .agg [.sl y2_0, .sl y2_1, .sl y2_2]] H).run =
  cond (decide (x7 ≥ 0))
  ((((ixA y2_0 x7 1).bind fun o2 =>
   (rdB H y2_0.b).bind fun c3 =>
   (intAt .i64 c3 o2).bind fun n4 =>
   (C (.fn F.sl05Find) [.sc (.sl x1), .sc (.int .i64 n4)] H).bind fun r5 =>
   (oneP r5.vs).bind fun p6 =>
   p6.sc?.bind fun c7 =>
   (intAt .i64 [c7] 0).bind fun n8 =>
   cond (decide (n8 ≥ 0))
   ((ixA x5 n8 1).bind fun o9 =>
    (putR r5.H x5.b o9 [.int .i64 x6]).bind fun H10 =>
    some ⟨0, [], H10⟩)
   (some ⟨0, [], r5.H⟩) : Option Out)).bind fun r11 =>
   cond (Nat.beq r11.e 0)
   ((ixA y2_1 x7 1).bind fun o12 =>
    (rdB r11.H y2_1.b).bind fun c13 =>
    (intAt .i64 c13 o12).bind fun n14 =>
    C (.loop F.sl08Steps 0) [.sc (.sl x1), .sc (.sl x5), .sc (.int .i64 (IntKind.wrap .i64 (x6 * n14))), .sc (.int .i64 (IntKind.wrap .i64 (x7 - 1))), .agg [.sl y2_0, .sl y2_1, .sl y2_2]] r11.H)
   (none))
  (some ⟨2, [], H⟩) := by kernel_rfl
theorem e_sl08Steps (C : Oracle) (a0_0 a0_1 a0_2 a1 : Sl) (H : AH) : (procM P T C (.fn F.sl08Steps) [.agg [.sl a0_0, .sl a0_1, .sl a0_2], .sc (.sl a1)] H).run =
  (mkB H 1 8 [.int .i64 0] (a1.n : Int) (a1.n : Int)).bind fun m1 =>
  (C (.loop F.sl08Steps 0) [.sc (.sl a1), .sc (.sl m1.1), .sc (.int .i64 1), .sc (.int .i64 (IntKind.wrap .i64 ((a0_0.n : Int) - 1))), .agg [.sl a0_0, .sl a0_1, .sl a0_2]] m1.2).bind fun r15 =>
  cond (Nat.beq r15.e 2)
  (some ⟨1, [.sc (.sl m1.1)], r15.H⟩)
  (none) := by kernel_rfl
/- loop.example/g03211/spec.l05Put -/
theorem e_sl05Put_0 (C : Oracle) (x2 : Int) (x3 : Sl) (x8 x13 x14 : Int) (y5_0 y5_1 y5_2 : Sl) (H : AH) : (procM P T C (.loop F.sl05Put 0) [.sc (.int .i64 x2), .sc (.sl x3), .sc (.int .i64 x8), .sc (.int .i64 x13), .sc (.int .i64 x14), .agg [.sl y5_0, .sl y5_1, .sl y5_2]] H).run =
  cond (decide (x14 < x13))
  ((ixA x3 x14 1).bind fun o5 =>
   (rdB H x3.b).bind fun c6 =>
   (intAt .i64 c6 o5).bind fun n7 =>
   (ixA y5_2 (IntKind.wrap .i64 ((IntKind.wrap .i64 (x2 * x8)) + x14)) 1).bind fun o8 =>
   (putR H y5_2.b o8 [.int .i64 n7]).bind fun H9 =>
   C (.loop F.sl05Put 0) [.sc (.int .i64 x2), .sc (.sl x3), .sc (.int .i64 x8), .sc (.int .i64 x13), .sc (.int .i64 (IntKind.wrap .i64 (x14 + 1))), .agg [.sl y5_0, .sl y5_1, .sl y5_2]] H9)
  (some ⟨2, [], H⟩) := by kernel_rfl
theorem e_sl05Put (C : Oracle) (a0_0 a0_1 a0_2 : Int) (a1_0 a1_1 a1_2 : Sl) (a2 : Int) (a3 : Sl) (H : AH) : (procM P T C (.fn F.sl05Put) [.agg [.int .i64 a0_0, .int .i64 a0_1, .int .i64 a0_2], .agg [.sl a1_0, .sl a1_1, .sl a1_2], .sc (.int .i64 a2), .sc (.sl a3)] H).run =
  (C (.fn F.sl02Width) [.agg [.int .i64 a0_0, .int .i64 a0_1, .int .i64 a0_2]] H).bind fun r1 =>
  (oneP r1.vs).bind fun p2 =>
  p2.sc?.bind fun c3 =>
  (intAt .i64 [c3] 0).bind fun n4 =>
  (C (.loop F.sl05Put 0) [.sc (.int .i64 a2), .sc (.sl a3), .sc (.int .i64 n4), .sc (.int .i64 (a3.n : Int)), .sc (.int .i64 0), .agg [.sl a1_0, .sl a1_1, .sl a1_2]] r1.H).bind fun r10 =>
  cond (Nat.beq r10.e 2)
  (some ⟨1, [], r10.H⟩)
  (none) := by kernel_rfl
/- loop.example/g03211/spec.l02Add -/
theorem e_sl02Add_0 (C : Oracle) (x1 x2 x7 : Sl) (x13 x14 y3_0 y3_1 y3_2 : Int) (H : AH) : (procM P T C (.loop F.sl02Add 0) [.sc (.sl x1), .sc (.sl x2), .sc (.sl x7), .sc (.int .i64 x13), .sc (.int .i64 x14), .agg [.int .i64 y3_0, .int .i64 y3_1, .int .i64 y3_2]] H).run =
  cond (decide (x14 < x13))
  (((cond (y3_0 == 1)
   (some ⟨0, [.sc (.bool (y3_0 == 1))], H⟩)
   (some ⟨0, [.sc (.bool (y3_0 == 6))], H⟩) : Option Out)).bind fun r2 =>
   cond (Nat.beq r2.e 0)
   ((nthP r2.vs 0).bind fun p3 =>
    p3.sc?.bind fun c4 =>
    (boolAt [c4] 0).bind fun b5 =>
    cond b5
    ((ixA x1 x14 1).bind fun o6 =>
     (rdB r2.H x1.b).bind fun c7 =>
     (intAt .i64 c7 o6).bind fun n8 =>
     (ixA x2 x14 1).bind fun o9 =>
     (rdB r2.H x2.b).bind fun c10 =>
     (intAt .i64 c10 o9).bind fun n11 =>
     (ixA x7 x14 1).bind fun o12 =>
     (putR r2.H x7.b o12 [.int .i64 (bitOr .i64 n8 n11)]).bind fun H13 =>
     C (.loop F.sl02Add 0) [.sc (.sl x1), .sc (.sl x2), .sc (.sl x7), .sc (.int .i64 x13), .sc (.int .i64 (IntKind.wrap .i64 (x14 + 1))), .agg [.int .i64 y3_0, .int .i64 y3_1, .int .i64 y3_2]] H13)
    (cond (y3_0 == 3)
     ((ixA x1 x14 1).bind fun o14 =>
      (rdB r2.H x1.b).bind fun c15 =>
      (intAt .i64 c15 o14).bind fun n16 =>
      (ixA x2 x14 1).bind fun o17 =>
      (rdB r2.H x2.b).bind fun c18 =>
      (intAt .i64 c18 o17).bind fun n19 =>
      (ixA x7 x14 1).bind fun o20 =>
      (putR r2.H x7.b o20 [.int .i64 (if y3_1 < IntKind.wrap .i64 (n16 + n19) then y3_1 else IntKind.wrap .i64 (n16 + n19))]).bind fun H21 =>
      C (.loop F.sl02Add 0) [.sc (.sl x1), .sc (.sl x2), .sc (.sl x7), .sc (.int .i64 x13), .sc (.int .i64 (IntKind.wrap .i64 (x14 + 1))), .agg [.int .i64 y3_0, .int .i64 y3_1, .int .i64 y3_2]] H21)
     (cond (y3_0 == 4)
      ((ixA x1 x14 1).bind fun o22 =>
       (rdB r2.H x1.b).bind fun c23 =>
       (intAt .i64 c23 o22).bind fun n24 =>
       (ixA x2 x14 1).bind fun o25 =>
       (rdB r2.H x2.b).bind fun c26 =>
       (intAt .i64 c26 o25).bind fun n27 =>
       (ixA x7 x14 1).bind fun o28 =>
       (putR r2.H x7.b o28 [.int .i64 (if n27 < n24 then n27 else n24)]).bind fun H29 =>
       C (.loop F.sl02Add 0) [.sc (.sl x1), .sc (.sl x2), .sc (.sl x7), .sc (.int .i64 x13), .sc (.int .i64 (IntKind.wrap .i64 (x14 + 1))), .agg [.int .i64 y3_0, .int .i64 y3_1, .int .i64 y3_2]] H29)
      (cond (y3_0 == 5)
       ((ixA x1 x14 1).bind fun o30 =>
        (rdB r2.H x1.b).bind fun c31 =>
        (intAt .i64 c31 o30).bind fun n32 =>
        (ixA x2 x14 1).bind fun o33 =>
        (rdB r2.H x2.b).bind fun c34 =>
        (intAt .i64 c34 o33).bind fun n35 =>
        (ixA x7 x14 1).bind fun o36 =>
        (putR r2.H x7.b o36 [.int .i64 (if n35 > n32 then n35 else n32)]).bind fun H37 =>
        C (.loop F.sl02Add 0) [.sc (.sl x1), .sc (.sl x2), .sc (.sl x7), .sc (.int .i64 x13), .sc (.int .i64 (IntKind.wrap .i64 (x14 + 1))), .agg [.int .i64 y3_0, .int .i64 y3_1, .int .i64 y3_2]] H37)
       ((ixA x1 x14 1).bind fun o38 =>
        (rdB r2.H x1.b).bind fun c39 =>
        (intAt .i64 c39 o38).bind fun n40 =>
        (ixA x2 x14 1).bind fun o41 =>
        (rdB r2.H x2.b).bind fun c42 =>
        (intAt .i64 c42 o41).bind fun n43 =>
        cond (y3_1 == 0)
        (none)
        ((ixA x7 x14 1).bind fun o44 =>
         (putR r2.H x7.b o44 [.int .i64 (Int.tmod (IntKind.wrap .i64 (n40 + n43)) y3_1)]).bind fun H45 =>
         C (.loop F.sl02Add 0) [.sc (.sl x1), .sc (.sl x2), .sc (.sl x7), .sc (.int .i64 x13), .sc (.int .i64 (IntKind.wrap .i64 (x14 + 1))), .agg [.int .i64 y3_0, .int .i64 y3_1, .int .i64 y3_2]] H45))))))
   (none))
  (some ⟨2, [], H⟩) := by kernel_rfl
theorem e_sl02Add (C : Oracle) (a0_0 a0_1 a0_2 : Int) (a1 a2 : Sl) (H : AH) : (procM P T C (.fn F.sl02Add) [.agg [.int .i64 a0_0, .int .i64 a0_1, .int .i64 a0_2], .sc (.sl a1), .sc (.sl a2)] H).run =
  (mkB H 1 8 [.int .i64 0] (a1.n : Int) (a1.n : Int)).bind fun m1 =>
  (C (.loop F.sl02Add 0) [.sc (.sl a1), .sc (.sl a2), .sc (.sl m1.1), .sc (.int .i64 (a1.n : Int)), .sc (.int .i64 0), .agg [.int .i64 a0_0, .int .i64 a0_1, .int .i64 a0_2]] m1.2).bind fun r46 =>
  cond (Nat.beq r46.e 2)
  (some ⟨1, [.sc (.sl m1.1)], r46.H⟩)
  (none) := by kernel_rfl
/- loop.example/g03211/spec.l02Mul -/
theorem e_sl02Mul_0 (C : Oracle) (x2 x7 x17 : Sl) (x18 x19 y3_0 y3_1 y3_2 : Int) (H : AH) : (procM P T C (.loop F.sl02Mul 0) [.sc (.sl x2), .sc (.sl x7), .sc (.sl x17), .sc (.int .i64 x18), .sc (.int .i64 x19), .agg [.int .i64 y3_0, .int .i64 y3_1, .int .i64 y3_2]] H).run =
  cond (decide (x19 < x18))
  ((ixA x17 x19 1).bind fun o46 =>
   (rdB H x17.b).bind fun c47 =>
   (intAt .i64 c47 o46).bind fun n48 =>
   (C (.loop F.sl02Mul 1) [.sc (.sl x7), .sc (.int .i64 x19), .sc (.int .i64 n48), .sc (.sl x2), .sc (.int .i64 (x2.n : Int)), .sc (.int .i64 0), .agg [.int .i64 y3_0, .int .i64 y3_1, .int .i64 y3_2]] H).bind fun r62 =>
   cond (Nat.beq r62.e 5)
   (C (.loop F.sl02Mul 0) [.sc (.sl x2), .sc (.sl x7), .sc (.sl x17), .sc (.int .i64 x18), .sc (.int .i64 (IntKind.wrap .i64 (x19 + 1))), .agg [.int .i64 y3_0, .int .i64 y3_1, .int .i64 y3_2]] r62.H)
   (none))
  (some ⟨3, [], H⟩) := by kernel_rfl
theorem e_sl02Mul_1 (C : Oracle) (x7 : Sl) (x8 x9 : Int) (x24 : Sl) (x25 x26 y3_0 y3_1 y3_2 : Int) (H : AH) : (procM P T C (.loop F.sl02Mul 1) [.sc (.sl x7), .sc (.int .i64 x8), .sc (.int .i64 x9), .sc (.sl x24), .sc (.int .i64 x25), .sc (.int .i64 x26), .agg [.int .i64 y3_0, .int .i64 y3_1, .int .i64 y3_2]] H).run =
  cond (decide (x26 < x25))
  ((ixA x24 x26 1).bind fun o49 =>
   (rdB H x24.b).bind fun c50 =>
   (intAt .i64 c50 o49).bind fun n51 =>
   cond (decide ((IntKind.wrap .i64 (x8 + x26)) < (x7.n : Int)))
   ((ixA x7 (IntKind.wrap .i64 (x8 + x26)) 1).bind fun o52 =>
    (rdB H x7.b).bind fun c53 =>
    (intAt .i64 c53 o52).bind fun n54 =>
    cond (y3_1 == 0)
    (none)
    ((ixA x7 (IntKind.wrap .i64 (x8 + x26)) 1).bind fun o55 =>
     (putR H x7.b o55 [.int .i64 (Int.tmod (IntKind.wrap .i64 (n54 + (IntKind.wrap .i64 (x9 * n51)))) y3_1)]).bind fun H56 =>
     C (.loop F.sl02Mul 1) [.sc (.sl x7), .sc (.int .i64 x8), .sc (.int .i64 x9), .sc (.sl x24), .sc (.int .i64 x25), .sc (.int .i64 (IntKind.wrap .i64 (x26 + 1))), .agg [.int .i64 y3_0, .int .i64 y3_1, .int .i64 y3_2]] H56))
   (cond (y3_0 == 8)
    ((ixA x7 (IntKind.wrap .i64 ((IntKind.wrap .i64 (x8 + x26)) - 4)) 1).bind fun o57 =>
     (rdB H x7.b).bind fun c58 =>
     (intAt .i64 c58 o57).bind fun n59 =>
     cond (y3_1 == 0)
     (none)
     ((ixA x7 (IntKind.wrap .i64 ((IntKind.wrap .i64 (x8 + x26)) - 4)) 1).bind fun o60 =>
      (putR H x7.b o60 [.int .i64 (Int.tmod (IntKind.wrap .i64 (n59 + (IntKind.wrap .i64 ((IntKind.wrap .i64 (y3_1 - x9)) * n51)))) y3_1)]).bind fun H61 =>
      C (.loop F.sl02Mul 1) [.sc (.sl x7), .sc (.int .i64 x8), .sc (.int .i64 x9), .sc (.sl x24), .sc (.int .i64 x25), .sc (.int .i64 (IntKind.wrap .i64 (x26 + 1))), .agg [.int .i64 y3_0, .int .i64 y3_1, .int .i64 y3_2]] H61))
    (C (.loop F.sl02Mul 1) [.sc (.sl x7), .sc (.int .i64 x8), .sc (.int .i64 x9), .sc (.sl x24), .sc (.int .i64 x25), .sc (.int .i64 (IntKind.wrap .i64 (x26 + 1))), .agg [.int .i64 y3_0, .int .i64 y3_1, .int .i64 y3_2]] H)))
  (some ⟨5, [], H⟩) := by kernel_rfl
theorem e_sl02Mul (C : Oracle) (a0_0 a0_1 a0_2 : Int) (a1 a2 : Sl) (H : AH) : (procM P T C (.fn F.sl02Mul) [.agg [.int .i64 a0_0, .int .i64 a0_1, .int .i64 a0_2], .sc (.sl a1), .sc (.sl a2)] H).run =
  (mkB H 1 8 [.int .i64 0] (a1.n : Int) (a1.n : Int)).bind fun m1 =>
  ((cond (a0_0 == 1)
   (some ⟨0, [.sc (.bool (a0_0 == 1))], m1.2⟩)
   (some ⟨0, [.sc (.bool (a0_0 == 6))], m1.2⟩) : Option Out)).bind fun r2 =>
  cond (Nat.beq r2.e 0)
  ((nthP r2.vs 0).bind fun p3 =>
   p3.sc?.bind fun c4 =>
   (boolAt [c4] 0).bind fun b5 =>
   cond b5
   ((ixA a1 0 1).bind fun o6 =>
    (rdB r2.H a1.b).bind fun c7 =>
    (intAt .i64 c7 o6).bind fun n8 =>
    (ixA a2 0 1).bind fun o9 =>
    (rdB r2.H a2.b).bind fun c10 =>
    (intAt .i64 c10 o9).bind fun n11 =>
    (ixA m1.1 0 1).bind fun o12 =>
    (putR r2.H m1.1.b o12 [.int .i64 (bitAnd .i64 n8 n11)]).bind fun H13 =>
    some ⟨1, [.sc (.sl m1.1)], H13⟩)
   (cond (a0_0 == 2)
    ((ixA a1 0 1).bind fun o14 =>
     (rdB r2.H a1.b).bind fun c15 =>
     (intAt .i64 c15 o14).bind fun n16 =>
     (ixA a2 0 1).bind fun o17 =>
     (rdB r2.H a2.b).bind fun c18 =>
     (intAt .i64 c18 o17).bind fun n19 =>
     cond (a0_1 == 0)
     (none)
     ((ixA m1.1 0 1).bind fun o20 =>
      (putR r2.H m1.1.b o20 [.int .i64 (Int.tmod (IntKind.wrap .i64 (n16 * n19)) a0_1)]).bind fun H21 =>
      some ⟨1, [.sc (.sl m1.1)], H21⟩))
    (cond (a0_0 == 3)
     ((ixA a1 0 1).bind fun o22 =>
      (rdB r2.H a1.b).bind fun c23 =>
      (intAt .i64 c23 o22).bind fun n24 =>
      (ixA a2 0 1).bind fun o25 =>
      (rdB r2.H a2.b).bind fun c26 =>
      (intAt .i64 c26 o25).bind fun n27 =>
      (ixA m1.1 0 1).bind fun o28 =>
      (putR r2.H m1.1.b o28 [.int .i64 (if a0_1 < IntKind.wrap .i64 (n24 * n27) then a0_1 else IntKind.wrap .i64 (n24 * n27))]).bind fun H29 =>
      some ⟨1, [.sc (.sl m1.1)], H29⟩)
     (cond (a0_0 == 4)
      ((ixA a1 0 1).bind fun o30 =>
       (rdB r2.H a1.b).bind fun c31 =>
       (intAt .i64 c31 o30).bind fun n32 =>
       (ixA a2 0 1).bind fun o33 =>
       (rdB r2.H a2.b).bind fun c34 =>
       (intAt .i64 c34 o33).bind fun n35 =>
       (ixA m1.1 0 1).bind fun o36 =>
       (putR r2.H m1.1.b o36 [.int .i64 (if a0_1 < IntKind.wrap .i64 (n32 + n35) then a0_1 else IntKind.wrap .i64 (n32 + n35))]).bind fun H37 =>
       some ⟨1, [.sc (.sl m1.1)], H37⟩)
      (cond (a0_0 == 5)
       ((ixA a1 0 1).bind fun o38 =>
        (rdB r2.H a1.b).bind fun c39 =>
        (intAt .i64 c39 o38).bind fun n40 =>
        (ixA a2 0 1).bind fun o41 =>
        (rdB r2.H a2.b).bind fun c42 =>
        (intAt .i64 c42 o41).bind fun n43 =>
        (ixA m1.1 0 1).bind fun o44 =>
        (putR r2.H m1.1.b o44 [.int .i64 (if n43 < n40 then n43 else n40)]).bind fun H45 =>
        some ⟨1, [.sc (.sl m1.1)], H45⟩)
       ((C (.loop F.sl02Mul 0) [.sc (.sl a2), .sc (.sl m1.1), .sc (.sl a1), .sc (.int .i64 (a1.n : Int)), .sc (.int .i64 0), .agg [.int .i64 a0_0, .int .i64 a0_1, .int .i64 a0_2]] r2.H).bind fun r63 =>
        cond (Nat.beq r63.e 3)
        (some ⟨1, [.sc (.sl m1.1)], r63.H⟩)
        (none)))))))
  (none) := by kernel_rfl
/- loop.example/g03211/spec.l05Offset -/
theorem e_sl05Offset_0 (C : Oracle) (x1 : Sl) (x5 : Int) (x8 : Sl) (x9 x10 : Int) (H : AH) : (procM P T C (.loop F.sl05Offset 0) [.sc (.sl x1), .sc (.int .i64 x5), .sc (.sl x8), .sc (.int .i64 x9), .sc (.int .i64 x10)] H).run =
  cond (decide (x10 < x9))
  ((ixA x8 x10 1).bind fun o1 =>
   (rdB H x8.b).bind fun c2 =>
   (intAt .i64 c2 o1).bind fun n3 =>
   (ixA x1 x10 1).bind fun o4 =>
   (rdB H x1.b).bind fun c5 =>
   (intAt .i64 c5 o4).bind fun n6 =>
   C (.loop F.sl05Offset 0) [.sc (.sl x1), .sc (.int .i64 (IntKind.wrap .i64 ((IntKind.wrap .i64 (x5 * n3)) + n6))), .sc (.sl x8), .sc (.int .i64 x9), .sc (.int .i64 (IntKind.wrap .i64 (x10 + 1)))] H)
  (some ⟨2, [.sc (.int .i64 x5)], H⟩) := by kernel_rfl
theorem e_sl05Offset (C : Oracle) (a0 a1 : Sl) (H : AH) : (procM P T C (.fn F.sl05Offset) [.sc (.sl a0), .sc (.sl a1)] H).run =
  (C (.loop F.sl05Offset 0) [.sc (.sl a1), .sc (.int .i64 0), .sc (.sl a0), .sc (.int .i64 (a0.n : Int)), .sc (.int .i64 0)] H).bind fun r7 =>
  cond (Nat.beq r7.e 2)
  ((nthP r7.vs 0).bind fun p8 =>
   p8.sc?.bind fun c9 =>
   (intAt .i64 [c9] 0).bind fun n10 =>
   some ⟨1, [.sc (.int .i64 n10)], r7.H⟩)
  (none) := by kernel_rfl
/- loop.example/g03211/impl.joinAxes -/
theorem e_ijoinAxes_0 (C : Oracle) (x8 x21 : Sl) (x22 x23 : Int) (y2_0 y2_1 y2_2 y3_0 y3_1 y3_2 : Sl) (H : AH) : (procM P T C (.loop F.ijoinAxes 0) [.sc (.sl x8), .sc (.sl x21), .sc (.int .i64 x22), .sc (.int .i64 x23), .agg [.sl y2_0, .sl y2_1, .sl y2_2], .agg [.sl y3_0, .sl y3_1, .sl y3_2]] H).run =
  cond (decide (x23 < x22))
  ((ixA x21 x23 1).bind fun o6 =>
   (rdB H x21.b).bind fun c7 =>
   (intAt .i64 c7 o6).bind fun n8 =>
   (C (.fn F.iaxisOf) [.agg [.sl y2_0, .sl y2_1, .sl y2_2], .sc (.int .i64 n8)] H).bind fun r9 =>
   (oneP r9.vs).bind fun p10 =>
   p10.sc?.bind fun c11 =>
   (intAt .i64 [c11] 0).bind fun n12 =>
   (C (.fn F.iaxisOf) [.agg [.sl y3_0, .sl y3_1, .sl y3_2], .sc (.int .i64 n8)] r9.H).bind fun r13 =>
   (oneP r13.vs).bind fun p14 =>
   p14.sc?.bind fun c15 =>
   (intAt .i64 [c15] 0).bind fun n16 =>
   ((cond (decide (n12 ≥ 0))
   (cond (decide (n16 ≥ 0))
    ((ixA y2_1 n12 1).bind fun o17 =>
     (rdB r13.H y2_1.b).bind fun c18 =>
     (intAt .i64 c18 o17).bind fun n19 =>
     (ixA y3_1 n16 1).bind fun o20 =>
     (rdB r13.H y3_1.b).bind fun c21 =>
     (intAt .i64 c21 o20).bind fun n22 =>
     cond (n19 != n22)
     (some ⟨1, [.sc (.sl ⟨0, 0, 0, 0, true⟩), .sc (.sl ⟨0, 0, 0, 0, true⟩), .sc (.bool false)], r13.H⟩)
     (some ⟨0, [], r13.H⟩))
    (some ⟨0, [], r13.H⟩))
   (some ⟨0, [], r13.H⟩) : Option Out)).bind fun r23 =>
   cond (Nat.beq r23.e 0)
   (cond (decide (n12 ≥ 0))
    ((ixA y2_1 n12 1).bind fun o24 =>
     (rdB r23.H y2_1.b).bind fun c25 =>
     (intAt .i64 c25 o24).bind fun n26 =>
     (ixA x8 x23 1).bind fun o27 =>
     (putR r23.H x8.b o27 [.int .i64 n26]).bind fun H28 =>
     C (.loop F.ijoinAxes 0) [.sc (.sl x8), .sc (.sl x21), .sc (.int .i64 x22), .sc (.int .i64 (IntKind.wrap .i64 (x23 + 1))), .agg [.sl y2_0, .sl y2_1, .sl y2_2], .agg [.sl y3_0, .sl y3_1, .sl y3_2]] H28)
    ((ixA y3_1 n16 1).bind fun o29 =>
     (rdB r23.H y3_1.b).bind fun c30 =>
     (intAt .i64 c30 o29).bind fun n31 =>
     (ixA x8 x23 1).bind fun o32 =>
     (putR r23.H x8.b o32 [.int .i64 n31]).bind fun H33 =>
     C (.loop F.ijoinAxes 0) [.sc (.sl x8), .sc (.sl x21), .sc (.int .i64 x22), .sc (.int .i64 (IntKind.wrap .i64 (x23 + 1))), .agg [.sl y2_0, .sl y2_1, .sl y2_2], .agg [.sl y3_0, .sl y3_1, .sl y3_2]] H33))
   (cond (Nat.beq r23.e 1)
    ((nthP r23.vs 0).bind fun p34 =>
     p34.sc?.bind fun c35 =>
     (slAt [c35] 0).bind fun s36 =>
     (nthP r23.vs 1).bind fun p37 =>
     p37.sc?.bind fun c38 =>
     (slAt [c38] 0).bind fun s39 =>
     (nthP r23.vs 2).bind fun p40 =>
     p40.sc?.bind fun c41 =>
     (boolAt [c41] 0).bind fun b42 =>
     some ⟨1, [.sc (.sl s36), .sc (.sl s39), .sc (.bool b42)], r23.H⟩)
    (none)))
  (some ⟨2, [], H⟩) := by kernel_rfl
theorem e_ijoinAxes (C : Oracle) (a0_0 a0_1 a0_2 a1_0 a1_1 a1_2 : Sl) (H : AH) : (procM P T C (.fn F.ijoinAxes) [.agg [.sl a0_0, .sl a0_1, .sl a0_2], .agg [.sl a1_0, .sl a1_1, .sl a1_2]] H).run =
  (C (.fn F.ijoinLabels) [.sc (.sl a0_0), .sc (.sl a1_0)] H).bind fun r1 =>
  (oneP r1.vs).bind fun p2 =>
  p2.sc?.bind fun c3 =>
  (slAt [c3] 0).bind fun s4 =>
  (mkB r1.H 1 8 [.int .i64 0] (s4.n : Int) (s4.n : Int)).bind fun m5 =>
  (C (.loop F.ijoinAxes 0) [.sc (.sl m5.1), .sc (.sl s4), .sc (.int .i64 (s4.n : Int)), .sc (.int .i64 0), .agg [.sl a0_0, .sl a0_1, .sl a0_2], .agg [.sl a1_0, .sl a1_1, .sl a1_2]] m5.2).bind fun r43 =>
  cond (Nat.beq r43.e 1)
  ((nthP r43.vs 0).bind fun p44 =>
   p44.sc?.bind fun c45 =>
   (slAt [c45] 0).bind fun s46 =>
   (nthP r43.vs 1).bind fun p47 =>
   p47.sc?.bind fun c48 =>
   (slAt [c48] 0).bind fun s49 =>
   (nthP r43.vs 2).bind fun p50 =>
   p50.sc?.bind fun c51 =>
   (boolAt [c51] 0).bind fun b52 =>
   some ⟨1, [.sc (.sl s46), .sc (.sl s49), .sc (.bool b52)], r43.H⟩)
  (cond (Nat.beq r43.e 2)
   (some ⟨1, [.sc (.sl s4), .sc (.sl m5.1), .sc (.bool true)], r43.H⟩)
   (none)) := by kernel_rfl
/- loop.example/g03211/impl.keptOnly -/
theorem e_ikeptOnly_0 (C : Oracle) (x1 x5 x8 : Sl) (x9 x10 : Int) (H : AH) : (procM P T C (.loop F.ikeptOnly 0) [.sc (.sl x1), .sc (.sl x5), .sc (.sl x8), .sc (.int .i64 x9), .sc (.int .i64 x10)] H).run =
  cond (decide (x10 < x9))
  ((ixA x8 x10 1).bind fun o1 =>
   (rdB H x8.b).bind fun c2 =>
   (intAt .i64 c2 o1).bind fun n3 =>
   (C (.fn F.ihasInt) [.sc (.sl x1), .sc (.int .i64 n3)] H).bind fun r4 =>
   (oneP r4.vs).bind fun p5 =>
   p5.sc?.bind fun c6 =>
   (boolAt [c6] 0).bind fun b7 =>
   cond b7
   ((newB r4.H 1 [.int .i64 n3]).bind fun h8 =>
    (rng h8.2 h8.1 0 (1 * 1)).bind fun l9 =>
    (appB h8.2 1 8 x5 l9 1).bind fun m10 =>
    C (.loop F.ikeptOnly 0) [.sc (.sl x1), .sc (.sl m10.1), .sc (.sl x8), .sc (.int .i64 x9), .sc (.int .i64 (IntKind.wrap .i64 (x10 + 1)))] m10.2)
   (C (.loop F.ikeptOnly 0) [.sc (.sl x1), .sc (.sl x5), .sc (.sl x8), .sc (.int .i64 x9), .sc (.int .i64 (IntKind.wrap .i64 (x10 + 1)))] r4.H))
  (some ⟨2, [.sc (.sl x5)], H⟩) := by kernel_rfl
theorem e_ikeptOnly (C : Oracle) (a0 a1 : Sl) (H : AH) : (procM P T C (.fn F.ikeptOnly) [.sc (.sl a0), .sc (.sl a1)] H).run =
  (C (.loop F.ikeptOnly 0) [.sc (.sl a1), .sc (.sl ⟨0, 0, 0, 0, true⟩), .sc (.sl a0), .sc (.int .i64 (a0.n : Int)), .sc (.int .i64 0)] H).bind fun r11 =>
  cond (Nat.beq r11.e 2)
  ((nthP r11.vs 0).bind fun p12 =>
   p12.sc?.bind fun c13 =>
   (slAt [c13] 0).bind fun s14 =>
   some ⟨1, [.sc (.sl s14)], r11.H⟩)
  (none) := by kernel_rfl
/- loop.example/g03211/impl.fillTensor -/
theorem e_ifillTensor_0 (C : Oracle) (x3 : Sl) (x10 x11 : Int) (y9_0 y9_1 y9_2 : Sl) (H : AH) : (procM P T C (.loop F.ifillTensor 0) [.sc (.sl x3), .sc (.int .i64 x10), .sc (.int .i64 x11), .agg [.sl y9_0, .sl y9_1, .sl y9_2]] H).run =
  cond (decide (x11 < x10))
  ((rng H x3.b x3.o (x3.n * 1)).bind fun l14 =>
   (appB H 1 8 y9_2 l14 x3.n).bind fun m15 =>
   C (.loop F.ifillTensor 0) [.sc (.sl x3), .sc (.int .i64 x10), .sc (.int .i64 (IntKind.wrap .i64 (x11 + 1))), .agg [.sl y9_0, .sl y9_1, .sl m15.1]] m15.2)
  (some ⟨2, [.agg [.sl y9_0, .sl y9_1, .sl y9_2]], H⟩) := by kernel_rfl
theorem e_ifillTensor (C : Oracle) (a0_0 a0_1 a0_2 : Int) (a1 a2 a3 : Sl) (H : AH) : (procM P T C (.fn F.ifillTensor) [.agg [.int .i64 a0_0, .int .i64 a0_1, .int .i64 a0_2], .sc (.sl a1), .sc (.sl a2), .sc (.sl a3)] H).run =
  (C (.fn F.icopyInts) [.sc (.sl a1)] H).bind fun r1 =>
  (oneP r1.vs).bind fun p2 =>
  p2.sc?.bind fun c3 =>
  (slAt [c3] 0).bind fun s4 =>
  (C (.fn F.icopyInts) [.sc (.sl a2)] r1.H).bind fun r5 =>
  (oneP r5.vs).bind fun p6 =>
  p6.sc?.bind fun c7 =>
  (slAt [c7] 0).bind fun s8 =>
  (C (.fn F.iproductOf) [.sc (.sl a2)] r5.H).bind fun r9 =>
  (oneP r9.vs).bind fun p10 =>
  p10.sc?.bind fun c11 =>
  (intAt .i64 [c11] 0).bind fun n12 =>
  (mkB r9.H 1 8 [.int .i64 0] 0 (IntKind.wrap .i64 (n12 * (a3.n : Int)))).bind fun m13 =>
  (C (.loop F.ifillTensor 0) [.sc (.sl a3), .sc (.int .i64 n12), .sc (.int .i64 0), .agg [.sl s4, .sl s8, .sl m13.1]] m13.2).bind fun r16 =>
  cond (Nat.beq r16.e 2)
  (((nthP r16.vs 0).bind PV.agg?).bind fun l17 =>
   cond (decide (l17.length = 3))
   ((slAt l17 0).bind fun s18 =>
    (slAt l17 1).bind fun s19 =>
    (slAt l17 2).bind fun s20 =>
    some ⟨1, [.agg [.sl s18, .sl s19, .sl s20]], r16.H⟩)
   (none))
  (none) := by kernel_rfl
/- loop.example/g03211/impl.rawZero -/
theorem e_irawZero (C : Oracle) (a0_0 a0_1 a0_2 : Int) (H : AH) : (procM P T C (.fn F.irawZero) [.agg [.int .i64 a0_0, .int .i64 a0_1, .int .i64 a0_2]] H).run =
  (C (.fn F.irawWidth) [.agg [.int .i64 a0_0, .int .i64 a0_1, .int .i64 a0_2]] H).bind fun r1 =>
  (oneP r1.vs).bind fun p2 =>
  p2.sc?.bind fun c3 =>
  (intAt .i64 [c3] 0).bind fun n4 =>
  (mkB r1.H 1 8 [.int .i64 0] n4 n4).bind fun m5 =>
  cond (a0_0 == 4)
  ((ixA m5.1 0 1).bind fun o6 =>
   (putR m5.2 m5.1.b o6 [.int .i64 a0_1]).bind fun H7 =>
   some ⟨1, [.sc (.sl m5.1)], H7⟩)
  (some ⟨1, [.sc (.sl m5.1)], m5.2⟩) := by kernel_rfl
/- loop.example/g03211/impl.mulInto -/
theorem e_imulInto (C : Oracle) (a0_0 a0_1 a0_2 : Int) (a1 a2 a3 : Sl) (H : AH) : (procM P T C (.fn F.imulInto) [.agg [.int .i64 a0_0, .int .i64 a0_1, .int .i64 a0_2], .sc (.sl a1), .sc (.sl a2), .sc (.sl a3)] H).run =
  ((cond (a0_0 == 1)
   (some ⟨0, [.sc (.bool (a0_0 == 1))], H⟩)
   (some ⟨0, [.sc (.bool (a0_0 == 5))], H⟩) : Option Out)).bind fun r1 =>
  cond (Nat.beq r1.e 0)
  ((nthP r1.vs 0).bind fun p2 =>
   p2.sc?.bind fun c3 =>
   (boolAt [c3] 0).bind fun b4 =>
   cond b4
   ((ixA a2 0 1).bind fun o5 =>
    (rdB r1.H a2.b).bind fun c6 =>
    (intAt .i64 c6 o5).bind fun n7 =>
    (ixA a3 0 1).bind fun o8 =>
    (rdB r1.H a3.b).bind fun c9 =>
    (intAt .i64 c9 o8).bind fun n10 =>
    (ixA a1 0 1).bind fun o11 =>
    (putR r1.H a1.b o11 [.int .i64 (if n10 < n7 then n10 else n7)]).bind fun H12 =>
    some ⟨1, [], H12⟩)
   (cond (a0_0 == 2)
    ((ixA a2 0 1).bind fun o13 =>
     (rdB r1.H a2.b).bind fun c14 =>
     (intAt .i64 c14 o13).bind fun n15 =>
     (ixA a3 0 1).bind fun o16 =>
     (rdB r1.H a3.b).bind fun c17 =>
     (intAt .i64 c17 o16).bind fun n18 =>
     cond (a0_1 == 0)
     (none)
     ((ixA a1 0 1).bind fun o19 =>
      (putR r1.H a1.b o19 [.int .i64 (Int.tmod (IntKind.wrap .i64 (n15 * n18)) a0_1)]).bind fun H20 =>
      some ⟨1, [], H20⟩))
    (cond (a0_0 == 3)
     ((ixA a2 0 1).bind fun o21 =>
      (rdB r1.H a2.b).bind fun c22 =>
      (intAt .i64 c22 o21).bind fun n23 =>
      (ixA a3 0 1).bind fun o24 =>
      (rdB r1.H a3.b).bind fun c25 =>
      (intAt .i64 c25 o24).bind fun n26 =>
      (ixA a1 0 1).bind fun o27 =>
      (putR r1.H a1.b o27 [.int .i64 (if a0_1 < IntKind.wrap .i64 (n23 * n26) then a0_1 else IntKind.wrap .i64 (n23 * n26))]).bind fun H28 =>
      some ⟨1, [], H28⟩)
     (cond (a0_0 == 4)
      ((ixA a2 0 1).bind fun o29 =>
       (rdB r1.H a2.b).bind fun c30 =>
       (intAt .i64 c30 o29).bind fun n31 =>
       (ixA a3 0 1).bind fun o32 =>
       (rdB r1.H a3.b).bind fun c33 =>
       (intAt .i64 c33 o32).bind fun n34 =>
       (ixA a1 0 1).bind fun o35 =>
       (putR r1.H a1.b o35 [.int .i64 (if a0_1 < IntKind.wrap .i64 (n31 + n34) then a0_1 else IntKind.wrap .i64 (n31 + n34))]).bind fun H36 =>
       some ⟨1, [], H36⟩)
      (cond (a0_0 == 6)
       ((ixA a2 0 1).bind fun o37 =>
        (rdB r1.H a2.b).bind fun c38 =>
        (intAt .i64 c38 o37).bind fun n39 =>
        (ixA a3 0 1).bind fun o40 =>
        (rdB r1.H a3.b).bind fun c41 =>
        (intAt .i64 c41 o40).bind fun n42 =>
        (ixA a1 0 1).bind fun o43 =>
        (putR r1.H a1.b o43 [.int .i64 (bitAnd .i64 n39 n42)]).bind fun H44 =>
        some ⟨1, [], H44⟩)
       ((C (.fn F.imulCoefficients) [.agg [.int .i64 a0_0, .int .i64 a0_1, .int .i64 a0_2], .sc (.sl a1), .sc (.sl a2), .sc (.sl a3)] r1.H).bind fun r45 =>
        some ⟨1, [], r45.H⟩))))))
  (none) := by kernel_rfl
/- loop.example/g03211/impl.addInto -/
theorem e_iaddInto_0 (C : Oracle) (x1 x2 : Sl) (x10 x11 y3_0 y3_1 y3_2 : Int) (H : AH) : (procM P T C (.loop F.iaddInto 0) [.sc (.sl x1), .sc (.sl x2), .sc (.int .i64 x10), .sc (.int .i64 x11), .agg [.int .i64 y3_0, .int .i64 y3_1, .int .i64 y3_2]] H).run =
  cond (decide (x11 < x10))
  ((ixA x1 x11 1).bind fun o37 =>
   (rdB H x1.b).bind fun c38 =>
   (intAt .i64 c38 o37).bind fun n39 =>
   (ixA x2 x11 1).bind fun o40 =>
   (rdB H x2.b).bind fun c41 =>
   (intAt .i64 c41 o40).bind fun n42 =>
   cond (y3_1 == 0)
   (none)
   ((ixA x1 x11 1).bind fun o43 =>
    (putR H x1.b o43 [.int .i64 (Int.tmod (IntKind.wrap .i64 (n39 + n42)) y3_1)]).bind fun H44 =>
    C (.loop F.iaddInto 0) [.sc (.sl x1), .sc (.sl x2), .sc (.int .i64 x10), .sc (.int .i64 (IntKind.wrap .i64 (x11 + 1))), .agg [.int .i64 y3_0, .int .i64 y3_1, .int .i64 y3_2]] H44))
  (some ⟨3, [], H⟩) := by kernel_rfl
theorem e_iaddInto (C : Oracle) (a0_0 a0_1 a0_2 : Int) (a1 a2 : Sl) (H : AH) : (procM P T C (.fn F.iaddInto) [.agg [.int .i64 a0_0, .int .i64 a0_1, .int .i64 a0_2], .sc (.sl a1), .sc (.sl a2)] H).run =
  ((cond (a0_0 == 1)
   (some ⟨0, [.sc (.bool (a0_0 == 1))], H⟩)
   (some ⟨0, [.sc (.bool (a0_0 == 5))], H⟩) : Option Out)).bind fun r1 =>
  cond (Nat.beq r1.e 0)
  ((nthP r1.vs 0).bind fun p2 =>
   p2.sc?.bind fun c3 =>
   (boolAt [c3] 0).bind fun b4 =>
   cond b4
   ((ixA a1 0 1).bind fun o5 =>
    (rdB r1.H a1.b).bind fun c6 =>
    (intAt .i64 c6 o5).bind fun n7 =>
    (ixA a2 0 1).bind fun o8 =>
    (rdB r1.H a2.b).bind fun c9 =>
    (intAt .i64 c9 o8).bind fun n10 =>
    (ixA a1 0 1).bind fun o11 =>
    (putR r1.H a1.b o11 [.int .i64 (if n10 > n7 then n10 else n7)]).bind fun H12 =>
    some ⟨1, [], H12⟩)
   (cond (a0_0 == 3)
    ((ixA a1 0 1).bind fun o13 =>
     (rdB r1.H a1.b).bind fun c14 =>
     (intAt .i64 c14 o13).bind fun n15 =>
     (ixA a2 0 1).bind fun o16 =>
     (rdB r1.H a2.b).bind fun c17 =>
     (intAt .i64 c17 o16).bind fun n18 =>
     (ixA a1 0 1).bind fun o19 =>
     (putR r1.H a1.b o19 [.int .i64 (if a0_1 < IntKind.wrap .i64 (n15 + n18) then a0_1 else IntKind.wrap .i64 (n15 + n18))]).bind fun H20 =>
     some ⟨1, [], H20⟩)
    (cond (a0_0 == 4)
     ((ixA a1 0 1).bind fun o21 =>
      (rdB r1.H a1.b).bind fun c22 =>
      (intAt .i64 c22 o21).bind fun n23 =>
      (ixA a2 0 1).bind fun o24 =>
      (rdB r1.H a2.b).bind fun c25 =>
      (intAt .i64 c25 o24).bind fun n26 =>
      (ixA a1 0 1).bind fun o27 =>
      (putR r1.H a1.b o27 [.int .i64 (if n26 < n23 then n26 else n23)]).bind fun H28 =>
      some ⟨1, [], H28⟩)
     (cond (a0_0 == 6)
      ((ixA a1 0 1).bind fun o29 =>
       (rdB r1.H a1.b).bind fun c30 =>
       (intAt .i64 c30 o29).bind fun n31 =>
       (ixA a2 0 1).bind fun o32 =>
       (rdB r1.H a2.b).bind fun c33 =>
       (intAt .i64 c33 o32).bind fun n34 =>
       (ixA a1 0 1).bind fun o35 =>
       (putR r1.H a1.b o35 [.int .i64 (bitOr .i64 n31 n34)]).bind fun H36 =>
       some ⟨1, [], H36⟩)
      ((C (.loop F.iaddInto 0) [.sc (.sl a1), .sc (.sl a2), .sc (.int .i64 (a1.n : Int)), .sc (.int .i64 0), .agg [.int .i64 a0_0, .int .i64 a0_1, .int .i64 a0_2]] r1.H).bind fun r45 =>
       cond (Nat.beq r45.e 3)
       (some ⟨1, [], r45.H⟩)
       (none))))))
  (none) := by kernel_rfl
/- loop.example/g03211/impl.sameLabels -/
theorem e_isameLabels_0 (C : Oracle) (x0 x1 x12 : Sl) (x13 x14 : Int) (H : AH) : (procM P T C (.loop F.isameLabels 0) [.sc (.sl x0), .sc (.sl x1), .sc (.sl x12), .sc (.int .i64 x13), .sc (.int .i64 x14)] H).run =
  cond (decide (x14 < x13))
  ((ixA x12 x14 1).bind fun o1 =>
   (rdB H x12.b).bind fun c2 =>
   (intAt .i64 c2 o1).bind fun n3 =>
   (slB x1 none (some x14) none 1).bind fun s4 =>
   (C (.fn F.ihasInt) [.sc (.sl s4), .sc (.int .i64 n3)] H).bind fun r5 =>
   (oneP r5.vs).bind fun p6 =>
   p6.sc?.bind fun c7 =>
   (boolAt [c7] 0).bind fun b8 =>
   cond b8
   (some ⟨1, [.sc (.bool false)], r5.H⟩)
   ((C (.fn F.ihasInt) [.sc (.sl x0), .sc (.int .i64 n3)] r5.H).bind fun r9 =>
    (oneP r9.vs).bind fun p10 =>
    p10.sc?.bind fun c11 =>
    (boolAt [c11] 0).bind fun b12 =>
    cond (!b12)
    (some ⟨1, [.sc (.bool false)], r9.H⟩)
    (C (.loop F.isameLabels 0) [.sc (.sl x0), .sc (.sl x1), .sc (.sl x12), .sc (.int .i64 x13), .sc (.int .i64 (IntKind.wrap .i64 (x14 + 1)))] r9.H)))
  (some ⟨2, [], H⟩) := by kernel_rfl
theorem e_isameLabels (C : Oracle) (a0 a1 : Sl) (H : AH) : (procM P T C (.fn F.isameLabels) [.sc (.sl a0), .sc (.sl a1)] H).run =
  cond ((a1.n : Int) != (a0.n : Int))
  (some ⟨1, [.sc (.bool false)], H⟩)
  ((C (.loop F.isameLabels 0) [.sc (.sl a0), .sc (.sl a1), .sc (.sl a1), .sc (.int .i64 (a1.n : Int)), .sc (.int .i64 0)] H).bind fun r13 =>
   cond (Nat.beq r13.e 1)
   ((nthP r13.vs 0).bind fun p14 =>
    p14.sc?.bind fun c15 =>
    (boolAt [c15] 0).bind fun b16 =>
    some ⟨1, [.sc (.bool b16)], r13.H⟩)
   (cond (Nat.beq r13.e 2)
    (some ⟨1, [.sc (.bool true)], r13.H⟩)
    (none))) := by kernel_rfl
/- loop.example/g03211/impl.rawPermute -/
theorem e_irawPermute_0 (C : Oracle) (x18 : Sl) (x19 x20 : Int) (y4_0 y4_1 y4_2 y7_0 y7_1 y7_2 : Sl) (H : AH) : (procM P T C (.loop F.irawPermute 0) [.sc (.sl x18), .sc (.int .i64 x19), .sc (.int .i64 x20), .agg [.sl y4_0, .sl y4_1, .sl y4_2], .agg [.sl y7_0, .sl y7_1, .sl y7_2]] H).run =
  cond (decide (x20 < x19))
  ((ixA x18 x20 1).bind fun o6 =>
   (rdB H x18.b).bind fun c7 =>
   (intAt .i64 c7 o6).bind fun n8 =>
   (C (.fn F.iaxisOf) [.agg [.sl y4_0, .sl y4_1, .sl y4_2], .sc (.int .i64 n8)] H).bind fun r9 =>
   (oneP r9.vs).bind fun p10 =>
   p10.sc?.bind fun c11 =>
   (intAt .i64 [c11] 0).bind fun n12 =>
   (ixA y4_1 n12 1).bind fun o13 =>
   (rdB r9.H y4_1.b).bind fun c14 =>
   (intAt .i64 c14 o13).bind fun n15 =>
   (ixA y7_1 x20 1).bind fun o16 =>
   (putR r9.H y7_1.b o16 [.int .i64 n15]).bind fun H17 =>
   C (.loop F.irawPermute 0) [.sc (.sl x18), .sc (.int .i64 x19), .sc (.int .i64 (IntKind.wrap .i64 (x20 + 1))), .agg [.sl y4_0, .sl y4_1, .sl y4_2], .agg [.sl y7_0, .sl y7_1, .sl y7_2]] H17)
  (some ⟨2, [], H⟩) := by kernel_rfl
theorem e_irawPermute_1 (C : Oracle) (x10 x11 : Sl) (y3_0 y3_1 y3_2 : Int) (y4_0 y4_1 y4_2 y6_0 y6_1 y6_2 y7_0 y7_1 y7_2 : Sl) (H : AH) : (procM P T C (.loop F.irawPermute 1) [.sc (.sl x10), .sc (.sl x11), .agg [.int .i64 y3_0, .int .i64 y3_1, .int .i64 y3_2], .agg [.sl y4_0, .sl y4_1, .sl y4_2], .agg [.sl y6_0, .sl y6_1, .sl y6_2], .agg [.sl y7_0, .sl y7_1, .sl y7_2]] H).run =
  (C (.fn F.idotOf) [.sc (.sl x10), .sc (.sl x11)] H).bind fun r24 =>
  (oneP r24.vs).bind fun p25 =>
  p25.sc?.bind fun c26 =>
  (intAt .i64 [c26] 0).bind fun n27 =>
  (C (.fn F.irawElem) [.agg [.int .i64 y3_0, .int .i64 y3_1, .int .i64 y3_2], .agg [.sl y4_0, .sl y4_1, .sl y4_2], .sc (.int .i64 n27)] r24.H).bind fun r28 =>
  (oneP r28.vs).bind fun p29 =>
  p29.sc?.bind fun c30 =>
  (slAt [c30] 0).bind fun s31 =>
  (rng r28.H s31.b s31.o (s31.n * 1)).bind fun l32 =>
  (appB r28.H 1 8 y7_2 l32 s31.n).bind fun m33 =>
  (C (.fn F.inextIndex) [.sc (.sl y7_1), .sc (.sl x11)] m33.2).bind fun r34 =>
  (oneP r34.vs).bind fun p35 =>
  p35.sc?.bind fun c36 =>
  (boolAt [c36] 0).bind fun b37 =>
  cond (!b37)
  (some ⟨1, [.agg [.sl y7_0, .sl y7_1, .sl m33.1], .agg [.sl y7_0, .sl y7_1, .sl m33.1]], r34.H⟩)
  (C (.loop F.irawPermute 1) [.sc (.sl x10), .sc (.sl x11), .agg [.int .i64 y3_0, .int .i64 y3_1, .int .i64 y3_2], .agg [.sl y4_0, .sl y4_1, .sl y4_2], .agg [.sl y6_0, .sl y6_1, .sl y6_2], .agg [.sl y7_0, .sl y7_1, .sl m33.1]] r34.H) := by kernel_rfl
theorem e_irawPermute (C : Oracle) (a0_0 a0_1 a0_2 : Int) (a1_0 a1_1 a1_2 a2 : Sl) (H : AH) : (procM P T C (.fn F.irawPermute) [.agg [.int .i64 a0_0, .int .i64 a0_1, .int .i64 a0_2], .agg [.sl a1_0, .sl a1_1, .sl a1_2], .sc (.sl a2)] H).run =
  (C (.fn F.icopyInts) [.sc (.sl a2)] ((reserve H 1).set (H.length + 0) deadB)).bind fun r1 =>
  (oneP r1.vs).bind fun p2 =>
  p2.sc?.bind fun c3 =>
  (slAt [c3] 0).bind fun s4 =>
  cond (decide (r1.H.length ≥ (reserve H 1).length))
  ((mkAt (restB (reserve H 1) r1.H (H.length + 0)) (H.length + 0) 1 8 [.int .i64 0] (a2.n : Int) (a2.n : Int)).bind fun m5 =>
   (C (.loop F.irawPermute 0) [.sc (.sl a2), .sc (.int .i64 (a2.n : Int)), .sc (.int .i64 0), .agg [.sl a1_0, .sl a1_1, .sl a1_2], .agg [.sl s4, .sl m5.1, .sl ⟨0, 0, 0, 0, true⟩]] m5.2).bind fun r18 =>
   cond (Nat.beq r18.e 2)
   ((C (.fn F.istridesOf) [.agg [.sl a1_0, .sl a1_1, .sl a1_2], .sc (.sl a2)] r18.H).bind fun r19 =>
    (oneP r19.vs).bind fun p20 =>
    p20.sc?.bind fun c21 =>
    (slAt [c21] 0).bind fun s22 =>
    (mkB r19.H 1 8 [.int .i64 0] (a2.n : Int) (a2.n : Int)).bind fun m23 =>
    (C (.loop F.irawPermute 1) [.sc (.sl s22), .sc (.sl m23.1), .agg [.int .i64 a0_0, .int .i64 a0_1, .int .i64 a0_2], .agg [.sl a1_0, .sl a1_1, .sl a1_2], .agg [.sl ⟨0, 0, 0, 0, true⟩, .sl ⟨0, 0, 0, 0, true⟩, .sl ⟨0, 0, 0, 0, true⟩], .agg [.sl s4, .sl m5.1, .sl ⟨0, 0, 0, 0, true⟩]] m23.2).bind fun r38 =>
    cond (Nat.beq r38.e 1)
    (((nthP r38.vs 0).bind PV.agg?).bind fun l39 =>
     cond (decide (l39.length = 3))
     ((slAt l39 0).bind fun s40 =>
      (slAt l39 1).bind fun s41 =>
      (slAt l39 2).bind fun s42 =>
      ((nthP r38.vs 1).bind PV.agg?).bind fun l43 =>
      cond (decide (l43.length = 3))
      ((slAt l43 0).bind fun s44 =>
       (slAt l43 1).bind fun s45 =>
       (slAt l43 2).bind fun s46 =>
       some ⟨1, [.agg [.sl s40, .sl s41, .sl s42]], r38.H⟩)
      (none))
     (none))
    (none))
   (none))
  (none) := by kernel_rfl
/- loop.example/g03211/spec.l02Zero -/
theorem e_sl02Zero (C : Oracle) (a0_0 a0_1 a0_2 : Int) (H : AH) : (procM P T C (.fn F.sl02Zero) [.agg [.int .i64 a0_0, .int .i64 a0_1, .int .i64 a0_2]] H).run =
  (C (.fn F.sl02Width) [.agg [.int .i64 a0_0, .int .i64 a0_1, .int .i64 a0_2]] H).bind fun r1 =>
  (oneP r1.vs).bind fun p2 =>
  p2.sc?.bind fun c3 =>
  (intAt .i64 [c3] 0).bind fun n4 =>
  (mkB r1.H 1 8 [.int .i64 0] n4 n4).bind fun m5 =>
  cond (a0_0 == 4)
  ((ixA m5.1 0 1).bind fun o6 =>
   (putR m5.2 m5.1.b o6 [.int .i64 a0_1]).bind fun H7 =>
   some ⟨1, [.sc (.sl m5.1)], H7⟩)
  (some ⟨1, [.sc (.sl m5.1)], m5.2⟩) := by kernel_rfl
/- loop.example/g03211/impl.mulCoefficients -/
theorem e_imulCoefficients_0 (C : Oracle) (x1 x2 x3 : Sl) (x14 x15 y4_0 y4_1 y4_2 : Int) (H : AH) : (procM P T C (.loop F.imulCoefficients 0) [.sc (.sl x1), .sc (.sl x2), .sc (.sl x3), .sc (.int .i64 x14), .sc (.int .i64 x15), .agg [.int .i64 y4_0, .int .i64 y4_1, .int .i64 y4_2]] H).run =
  cond (decide (x15 < x14))
  ((C (.loop F.imulCoefficients 1) [.sc (.sl x1), .sc (.sl x2), .sc (.sl x3), .sc (.int .i64 x15), .sc (.int .i64 (x3.n : Int)), .sc (.int .i64 0), .agg [.int .i64 y4_0, .int .i64 y4_1, .int .i64 y4_2]] H).bind fun r18 =>
   cond (Nat.beq r18.e 4)
   (C (.loop F.imulCoefficients 0) [.sc (.sl x1), .sc (.sl x2), .sc (.sl x3), .sc (.int .i64 x14), .sc (.int .i64 (IntKind.wrap .i64 (x15 + 1))), .agg [.int .i64 y4_0, .int .i64 y4_1, .int .i64 y4_2]] r18.H)
   (none))
  (some ⟨2, [], H⟩) := by kernel_rfl
theorem e_imulCoefficients_1 (C : Oracle) (x1 x2 x3 : Sl) (x8 x19 x20 y4_0 y4_1 y4_2 : Int) (H : AH) : (procM P T C (.loop F.imulCoefficients 1) [.sc (.sl x1), .sc (.sl x2), .sc (.sl x3), .sc (.int .i64 x8), .sc (.int .i64 x19), .sc (.int .i64 x20), .agg [.int .i64 y4_0, .int .i64 y4_1, .int .i64 y4_2]] H).run =
  cond (decide (x20 < x19))
  ((ixA x2 x8 1).bind fun o2 =>
   (rdB H x2.b).bind fun c3 =>
   (intAt .i64 c3 o2).bind fun n4 =>
   (ixA x3 x20 1).bind fun o5 =>
   (rdB H x3.b).bind fun c6 =>
   (intAt .i64 c6 o5).bind fun n7 =>
   cond (y4_1 == 0)
   (none)
   (cond (decide ((IntKind.wrap .i64 (x8 + x20)) < (x1.n : Int)))
    ((ixA x1 (IntKind.wrap .i64 (x8 + x20)) 1).bind fun o8 =>
     (rdB H x1.b).bind fun c9 =>
     (intAt .i64 c9 o8).bind fun n10 =>
     cond (y4_1 == 0)
     (none)
     ((ixA x1 (IntKind.wrap .i64 (x8 + x20)) 1).bind fun o11 =>
      (putR H x1.b o11 [.int .i64 (Int.tmod (IntKind.wrap .i64 (n10 + (Int.tmod (IntKind.wrap .i64 (n4 * n7)) y4_1))) y4_1)]).bind fun H12 =>
      C (.loop F.imulCoefficients 1) [.sc (.sl x1), .sc (.sl x2), .sc (.sl x3), .sc (.int .i64 x8), .sc (.int .i64 x19), .sc (.int .i64 (IntKind.wrap .i64 (x20 + 1))), .agg [.int .i64 y4_0, .int .i64 y4_1, .int .i64 y4_2]] H12))
    (cond (y4_0 == 8)
     ((ixA x1 (IntKind.wrap .i64 ((IntKind.wrap .i64 (x8 + x20)) - 4)) 1).bind fun o13 =>
      (rdB H x1.b).bind fun c14 =>
      (intAt .i64 c14 o13).bind fun n15 =>
      cond (y4_1 == 0)
      (none)
      ((ixA x1 (IntKind.wrap .i64 ((IntKind.wrap .i64 (x8 + x20)) - 4)) 1).bind fun o16 =>
       (putR H x1.b o16 [.int .i64 (Int.tmod (IntKind.wrap .i64 ((IntKind.wrap .i64 (n15 + y4_1)) - (Int.tmod (IntKind.wrap .i64 (n4 * n7)) y4_1))) y4_1)]).bind fun H17 =>
       C (.loop F.imulCoefficients 1) [.sc (.sl x1), .sc (.sl x2), .sc (.sl x3), .sc (.int .i64 x8), .sc (.int .i64 x19), .sc (.int .i64 (IntKind.wrap .i64 (x20 + 1))), .agg [.int .i64 y4_0, .int .i64 y4_1, .int .i64 y4_2]] H17))
     (C (.loop F.imulCoefficients 1) [.sc (.sl x1), .sc (.sl x2), .sc (.sl x3), .sc (.int .i64 x8), .sc (.int .i64 x19), .sc (.int .i64 (IntKind.wrap .i64 (x20 + 1))), .agg [.int .i64 y4_0, .int .i64 y4_1, .int .i64 y4_2]] H))))
  (some ⟨4, [], H⟩) := by kernel_rfl
theorem e_imulCoefficients (C : Oracle) (a0_0 a0_1 a0_2 : Int) (a1 a2 a3 : Sl) (H : AH) : (procM P T C (.fn F.imulCoefficients) [.agg [.int .i64 a0_0, .int .i64 a0_1, .int .i64 a0_2], .sc (.sl a1), .sc (.sl a2), .sc (.sl a3)] H).run =
  (clrB H a1 [.int .i64 0]).bind fun H1 =>
  (C (.loop F.imulCoefficients 0) [.sc (.sl a1), .sc (.sl a2), .sc (.sl a3), .sc (.int .i64 (a2.n : Int)), .sc (.int .i64 0), .agg [.int .i64 a0_0, .int .i64 a0_1, .int .i64 a0_2]] H1).bind fun r19 =>
  cond (Nat.beq r19.e 2)
  (some ⟨1, [], r19.H⟩)
  (none) := by kernel_rfl
end Go.Abs
