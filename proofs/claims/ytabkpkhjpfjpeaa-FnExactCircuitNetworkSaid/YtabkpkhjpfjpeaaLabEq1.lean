/- Part of the proof of FnExactCircuitNetwork: that for every input the law answers true and leaves what it reads as it was. Conditions: none beyond the given statement. -/
import Derived.Test.YtabkpkhjpfjpeaaLabTab
import Derived.KernelRfl
set_option linter.all false
/- The equations of the functions: what the abstract interpreter makes of their code. -/
namespace Go.Abs
set_option maxRecDepth 100000
set_option linter.unusedVariables false
/- loop.example/g03211/impl.CircuitOk -/
theorem e_iCircuitOk_0 (C : Oracle) (x27 : Sl) (x28 x29 y1_0 y1_1 : Int) (y1_2 : Sl) (H : AH) : (procM P T C (.loop F.iCircuitOk 0) [.sc (.sl x27), .sc (.int .i64 x28), .sc (.int .i64 x29), .agg [.int .i64 y1_0, .int .i64 y1_1, .sl y1_2]] H).run =
  cond (decide (x29 < x28))
  ((ixA x27 x29 3).bind fun o11 =>
   (rdB H x27.b).bind fun c12 =>
   (intAt .i64 c12 o11).bind fun n13 =>
   (intAt .i64 c12 (o11 + 1)).bind fun n14 =>
   (intAt .i64 c12 (o11 + 1 + 1)).bind fun n15 =>
   cond (decide (n13 < 1))
   (some ⟨1, [.sc (.bool false)], H⟩)
   (cond (decide (n13 > 9))
    (some ⟨1, [.sc (.bool false)], H⟩)
    (cond (decide (n14 < 0))
     (some ⟨1, [.sc (.bool false)], H⟩)
     (cond (decide (n14 ≥ y1_1))
      (some ⟨1, [.sc (.bool false)], H⟩)
      (cond (decide (n13 < 8))
       (cond (n15 != 0)
        (some ⟨1, [.sc (.bool false)], H⟩)
        (C (.loop F.iCircuitOk 0) [.sc (.sl x27), .sc (.int .i64 x28), .sc (.int .i64 (IntKind.wrap .i64 (x29 + 1))), .agg [.int .i64 y1_0, .int .i64 y1_1, .sl y1_2]] H))
       (cond (decide (n15 < 0))
        (some ⟨1, [.sc (.bool false)], H⟩)
        (cond (decide (n15 ≥ y1_1))
         (some ⟨1, [.sc (.bool false)], H⟩)
         (cond (n15 == n14)
          (some ⟨1, [.sc (.bool false)], H⟩)
          (C (.loop F.iCircuitOk 0) [.sc (.sl x27), .sc (.int .i64 x28), .sc (.int .i64 (IntKind.wrap .i64 (x29 + 1))), .agg [.int .i64 y1_0, .int .i64 y1_1, .sl y1_2]] H)))))))))
  (some ⟨2, [], H⟩) := by kernel_rfl
theorem e_iCircuitOk (C : Oracle) (a0_0 a0_1 : Int) (a0_2 : Sl) (H : AH) : (procM P T C (.fn F.iCircuitOk) [.agg [.int .i64 a0_0, .int .i64 a0_1, .sl a0_2]] H).run =
  (C (.fn F.iomegaRing) [.sc (.int .i64 a0_0)] H).bind fun r1 =>
  (oneP r1.vs).bind fun p2 =>
  p2.agg?.bind fun l3 =>
  cond (decide (l3.length = 3))
  ((intAt .i64 l3 0).bind fun n4 =>
   (intAt .i64 l3 1).bind fun n5 =>
   (intAt .i64 l3 2).bind fun n6 =>
   (C (.fn F.iRingOk) [.agg [.int .i64 n4, .int .i64 n5, .int .i64 n6]] r1.H).bind fun r7 =>
   (oneP r7.vs).bind fun p8 =>
   p8.sc?.bind fun c9 =>
   (boolAt [c9] 0).bind fun b10 =>
   cond (!b10)
   (some ⟨1, [.sc (.bool false)], r7.H⟩)
   (cond (decide (a0_1 < 1))
    (some ⟨1, [.sc (.bool false)], r7.H⟩)
    (cond (decide (a0_1 > 5))
     (some ⟨1, [.sc (.bool false)], r7.H⟩)
     (cond (decide ((a0_2.n : Int) > 24))
      (some ⟨1, [.sc (.bool false)], r7.H⟩)
      ((C (.loop F.iCircuitOk 0) [.sc (.sl a0_2), .sc (.int .i64 (a0_2.n : Int)), .sc (.int .i64 0), .agg [.int .i64 a0_0, .int .i64 a0_1, .sl a0_2]] r7.H).bind fun r16 =>
       cond (Nat.beq r16.e 1)
       ((nthP r16.vs 0).bind fun p17 =>
        p17.sc?.bind fun c18 =>
        (boolAt [c18] 0).bind fun b19 =>
        some ⟨1, [.sc (.bool b19)], r16.H⟩)
       (cond (Nat.beq r16.e 2)
        (some ⟨1, [.sc (.bool true)], r16.H⟩)
        (none)))))))
  (none) := by kernel_rfl
/- loop.example/g03211/impl.firstLabels -/
theorem e_ifirstLabels_0 (C : Oracle) (x3 : Sl) (x8 x9 : Int) (H : AH) : (procM P T C (.loop F.ifirstLabels 0) [.sc (.sl x3), .sc (.int .i64 x8), .sc (.int .i64 x9)] H).run =
  cond (decide (x9 < x8))
  ((ixA x3 x9 1).bind fun o2 =>
   (putR H x3.b o2 [.int .i64 x9]).bind fun H3 =>
   C (.loop F.ifirstLabels 0) [.sc (.sl x3), .sc (.int .i64 x8), .sc (.int .i64 (IntKind.wrap .i64 (x9 + 1)))] H3)
  (some ⟨2, [], H⟩) := by kernel_rfl
theorem e_ifirstLabels (C : Oracle) (a0 : Int) (H : AH) : (procM P T C (.fn F.ifirstLabels) [.sc (.int .i64 a0)] H).run =
  (mkB H 1 8 [.int .i64 0] a0 a0).bind fun m1 =>
  (C (.loop F.ifirstLabels 0) [.sc (.sl m1.1), .sc (.int .i64 (m1.1.n : Int)), .sc (.int .i64 0)] m1.2).bind fun r4 =>
  cond (Nat.beq r4.e 2)
  (some ⟨1, [.sc (.sl m1.1)], r4.H⟩)
  (none) := by kernel_rfl
/- loop.example/g03211/impl.gateQubits -/
theorem e_igateQubits (C : Oracle) (a0_0 a0_1 a0_2 : Int) (H : AH) : (procM P T C (.fn F.igateQubits) [.agg [.int .i64 a0_0, .int .i64 a0_1, .int .i64 a0_2]] H).run =
  cond (decide (a0_0 ≥ 8))
  ((newB H 1 [.int .i64 a0_1, .int .i64 a0_2]).bind fun h1 =>
   some ⟨1, [.sc (.sl ⟨h1.1, 0, 2, 2, true⟩)], h1.2⟩)
  ((newB H 1 [.int .i64 a0_1]).bind fun h2 =>
   some ⟨1, [.sc (.sl ⟨h2.1, 0, 1, 1, true⟩)], h2.2⟩) := by kernel_rfl
/- loop.example/g03211/impl.twos -/
theorem e_itwos_0 (C : Oracle) (x3 : Sl) (x8 x9 : Int) (H : AH) : (procM P T C (.loop F.itwos 0) [.sc (.sl x3), .sc (.int .i64 x8), .sc (.int .i64 x9)] H).run =
  cond (decide (x9 < x8))
  ((ixA x3 x9 1).bind fun o2 =>
   (putR H x3.b o2 [.int .i64 2]).bind fun H3 =>
   C (.loop F.itwos 0) [.sc (.sl x3), .sc (.int .i64 x8), .sc (.int .i64 (IntKind.wrap .i64 (x9 + 1)))] H3)
  (some ⟨2, [], H⟩) := by kernel_rfl
theorem e_itwos (C : Oracle) (a0 : Int) (H : AH) : (procM P T C (.fn F.itwos) [.sc (.int .i64 a0)] H).run =
  (mkB H 1 8 [.int .i64 0] a0 a0).bind fun m1 =>
  (C (.loop F.itwos 0) [.sc (.sl m1.1), .sc (.int .i64 (m1.1.n : Int)), .sc (.int .i64 0)] m1.2).bind fun r4 =>
  cond (Nat.beq r4.e 2)
  (some ⟨1, [.sc (.sl m1.1)], r4.H⟩)
  (none) := by kernel_rfl
/- loop.example/g03211/laws.eqGateS -/
theorem e_weqGateS_0 (C : Oracle) (x0 x1 : Sl) (x5 : Int) (H : AH) : (procM P T C (.loop F.weqGateS 0) [.sc (.sl x0), .sc (.sl x1), .sc (.int .i64 x5)] H).run =
  cond (decide (x5 < (x0.n : Int)))
  ((ixA x0 x5 3).bind fun o1 =>
   (rdB H x0.b).bind fun c2 =>
   (intAt .i64 c2 o1).bind fun n3 =>
   (intAt .i64 c2 (o1 + 1)).bind fun n4 =>
   (intAt .i64 c2 (o1 + 1 + 1)).bind fun n5 =>
   (ixA x1 x5 3).bind fun o6 =>
   (rdB H x1.b).bind fun c7 =>
   (intAt .i64 c7 o6).bind fun n8 =>
   (intAt .i64 c7 (o6 + 1)).bind fun n9 =>
   (intAt .i64 c7 (o6 + 1 + 1)).bind fun n10 =>
   (C (.fn F.weqGate) [.agg [.int .i64 n3, .int .i64 n4, .int .i64 n5], .agg [.int .i64 n8, .int .i64 n9, .int .i64 n10]] H).bind fun r11 =>
   (oneP r11.vs).bind fun p12 =>
   p12.sc?.bind fun c13 =>
   (boolAt [c13] 0).bind fun b14 =>
   cond (!b14)
   (some ⟨1, [.sc (.bool false)], r11.H⟩)
   (C (.loop F.weqGateS 0) [.sc (.sl x0), .sc (.sl x1), .sc (.int .i64 (IntKind.wrap .i64 (x5 + 1)))] r11.H))
  (some ⟨2, [], H⟩) := by kernel_rfl
theorem e_weqGateS (C : Oracle) (a0 a1 : Sl) (H : AH) : (procM P T C (.fn F.weqGateS) [.sc (.sl a0), .sc (.sl a1)] H).run =
  cond ((a0.n : Int) != (a1.n : Int))
  (some ⟨1, [.sc (.bool false)], H⟩)
  ((C (.loop F.weqGateS 0) [.sc (.sl a0), .sc (.sl a1), .sc (.int .i64 0)] H).bind fun r15 =>
   cond (Nat.beq r15.e 1)
   ((nthP r15.vs 0).bind fun p16 =>
    p16.sc?.bind fun c17 =>
    (boolAt [c17] 0).bind fun b18 =>
    some ⟨1, [.sc (.bool b18)], r15.H⟩)
   (cond (Nat.beq r15.e 2)
    (some ⟨1, [.sc (.bool true)], r15.H⟩)
    (none))) := by kernel_rfl
/- loop.example/g03211/laws.markGateS -/
theorem e_wmarkGateS_0 (C : Oracle) (x0 : Sl) (x1 x5 : Int) (H : AH) : (procM P T C (.loop F.wmarkGateS 0) [.sc (.sl x0), .sc (.int .i64 x1), .sc (.int .i64 x5)] H).run =
  cond (decide (x5 < (x0.n : Int)))
  ((ixA x0 x5 3).bind fun o1 =>
   (putR H x0.b (o1 + 0) [.int .i64 x1]).bind fun H2 =>
   (ixA x0 x5 3).bind fun o3 =>
   (putR H2 x0.b (o3 + 1) [.int .i64 (IntKind.wrap .i64 (x1 + 1))]).bind fun H4 =>
   (ixA x0 x5 3).bind fun o5 =>
   (putR H4 x0.b (o5 + 2) [.int .i64 (IntKind.wrap .i64 ((IntKind.wrap .i64 (x1 + 1)) + 1))]).bind fun H6 =>
   C (.loop F.wmarkGateS 0) [.sc (.sl x0), .sc (.int .i64 (IntKind.wrap .i64 ((IntKind.wrap .i64 ((IntKind.wrap .i64 (x1 + 1)) + 1)) + 1))), .sc (.int .i64 (IntKind.wrap .i64 (x5 + 1)))] H6)
  (some ⟨2, [.sc (.int .i64 x1)], H⟩) := by kernel_rfl
theorem e_wmarkGateS (C : Oracle) (a0 : Sl) (a1 : Int) (H : AH) : (procM P T C (.fn F.wmarkGateS) [.sc (.sl a0), .sc (.int .i64 a1)] H).run =
  (C (.loop F.wmarkGateS 0) [.sc (.sl a0), .sc (.int .i64 a1), .sc (.int .i64 0)] H).bind fun r7 =>
  cond (Nat.beq r7.e 2)
  ((nthP r7.vs 0).bind fun p8 =>
   p8.sc?.bind fun c9 =>
   (intAt .i64 [c9] 0).bind fun n10 =>
   some ⟨1, [.sc (.int .i64 n10)], r7.H⟩)
  (none) := by kernel_rfl
/- loop.example/g03211/spec.IsPrime -/
theorem e_sIsPrime_0 (C : Oracle) (x0 x3 : Int) (H : AH) : (procM P T C (.loop F.sIsPrime 0) [.sc (.int .i64 x0), .sc (.int .i64 x3)] H).run =
  cond (decide ((IntKind.wrap .i64 (x3 * x3)) ≤ x0))
  (cond (decide (x0 ≤ 1000003))
   (cond (x3 == 0)
    (none)
    (cond ((Int.tmod x0 x3) == 0)
     (some ⟨1, [.sc (.bool false)], H⟩)
     (C (.loop F.sIsPrime 0) [.sc (.int .i64 x0), .sc (.int .i64 (IntKind.wrap .i64 (x3 + 1)))] H)))
   (some ⟨2, [], H⟩))
  (some ⟨2, [], H⟩) := by kernel_rfl
theorem e_sIsPrime (C : Oracle) (a0 : Int) (H : AH) : (procM P T C (.fn F.sIsPrime) [.sc (.int .i64 a0)] H).run =
  (C (.loop F.sIsPrime 0) [.sc (.int .i64 a0), .sc (.int .i64 2)] H).bind fun r1 =>
  cond (Nat.beq r1.e 1)
  ((nthP r1.vs 0).bind fun p2 =>
   p2.sc?.bind fun c3 =>
   (boolAt [c3] 0).bind fun b4 =>
   some ⟨1, [.sc (.bool b4)], r1.H⟩)
  (cond (Nat.beq r1.e 2)
   ((C (.fn F.sl01In) [.sc (.int .i64 a0), .sc (.int .i64 2), .sc (.int .i64 1000003)] r1.H).bind fun r5 =>
    (oneP r5.vs).bind fun p6 =>
    p6.sc?.bind fun c7 =>
    (boolAt [c7] 0).bind fun b8 =>
    some ⟨1, [.sc (.bool b8)], r5.H⟩)
   (none)) := by kernel_rfl
/- loop.example/g03211/impl.IsPrime -/
theorem e_iIsPrime_0 (C : Oracle) (x0 x3 : Int) (H : AH) : (procM P T C (.loop F.iIsPrime 0) [.sc (.int .i64 x0), .sc (.int .i64 x3)] H).run =
  cond (decide ((IntKind.wrap .i64 (x3 * x3)) ≤ x0))
  (cond (x3 == 0)
   (none)
   (cond ((Int.tmod x0 x3) == 0)
    (some ⟨1, [.sc (.bool false)], H⟩)
    (C (.loop F.iIsPrime 0) [.sc (.int .i64 x0), .sc (.int .i64 (IntKind.wrap .i64 (x3 + 1)))] H)))
  (some ⟨2, [], H⟩) := by kernel_rfl
theorem e_iIsPrime (C : Oracle) (a0 : Int) (H : AH) : (procM P T C (.fn F.iIsPrime) [.sc (.int .i64 a0)] H).run =
  cond (decide (a0 < 2))
  (some ⟨1, [.sc (.bool false)], H⟩)
  (cond (decide (a0 > 1000003))
   (some ⟨1, [.sc (.bool false)], H⟩)
   ((C (.loop F.iIsPrime 0) [.sc (.int .i64 a0), .sc (.int .i64 2)] H).bind fun r1 =>
    cond (Nat.beq r1.e 1)
    ((nthP r1.vs 0).bind fun p2 =>
     p2.sc?.bind fun c3 =>
     (boolAt [c3] 0).bind fun b4 =>
     some ⟨1, [.sc (.bool b4)], r1.H⟩)
    (cond (Nat.beq r1.e 2)
     (some ⟨1, [.sc (.bool true)], r1.H⟩)
     (none)))) := by kernel_rfl
/- loop.example/g03211/spec.TensorSize -/
theorem e_sTensorSize (C : Oracle) (a0_0 a0_1 a0_2 : Sl) (H : AH) : (procM P T C (.fn F.sTensorSize) [.agg [.sl a0_0, .sl a0_1, .sl a0_2]] H).run =
  (C (.fn F.sl05Axes) [.sc (.sl a0_0), .sc (.sl a0_1)] H).bind fun r1 =>
  (oneP r1.vs).bind fun p2 =>
  p2.sc?.bind fun c3 =>
  (boolAt [c3] 0).bind fun b4 =>
  cond (!b4)
  (some ⟨1, [.sc (.int .i64 (-1))], r1.H⟩)
  ((C (.fn F.sl05Product) [.sc (.sl a0_1), .sc (.int .i64 4096)] r1.H).bind fun r5 =>
   (oneP r5.vs).bind fun p6 =>
   p6.sc?.bind fun c7 =>
   (intAt .i64 [c7] 0).bind fun n8 =>
   cond (decide (n8 > 4096))
   (some ⟨1, [.sc (.int .i64 (-1))], r5.H⟩)
   (some ⟨1, [.sc (.int .i64 n8)], r5.H⟩)) := by kernel_rfl
/- loop.example/g03211/spec.l02Width -/
theorem e_sl02Width (C : Oracle) (a0_0 a0_1 a0_2 : Int) (H : AH) : (procM P T C (.fn F.sl02Width) [.agg [.int .i64 a0_0, .int .i64 a0_1, .int .i64 a0_2]] H).run =
  cond (a0_0 == 7)
  (some ⟨1, [.sc (.int .i64 a0_2)], H⟩)
  (cond (a0_0 == 8)
   (some ⟨1, [.sc (.int .i64 4)], H⟩)
   (some ⟨1, [.sc (.int .i64 1)], H⟩)) := by kernel_rfl
/- loop.example/g03211/spec.l02Top -/
theorem e_sl02Top (C : Oracle) (a0_0 a0_1 a0_2 : Int) (H : AH) : (procM P T C (.fn F.sl02Top) [.agg [.int .i64 a0_0, .int .i64 a0_1, .int .i64 a0_2]] H).run =
  cond (a0_0 == 1)
  (some ⟨1, [.sc (.int .i64 1)], H⟩)
  (((cond (a0_0 == 3)
   (some ⟨0, [.sc (.bool (a0_0 == 3))], H⟩)
   (cond (a0_0 == 4)
    (some ⟨0, [.sc (.bool (a0_0 == 4))], H⟩)
    (some ⟨0, [.sc (.bool (a0_0 == 5))], H⟩)) : Option Out)).bind fun r1 =>
   cond (Nat.beq r1.e 0)
   ((nthP r1.vs 0).bind fun p2 =>
    p2.sc?.bind fun c3 =>
    (boolAt [c3] 0).bind fun b4 =>
    cond b4
    (some ⟨1, [.sc (.int .i64 a0_1)], r1.H⟩)
    (cond (a0_0 == 6)
     (cond (decide (a0_2 < 0))
      (none)
      (some ⟨1, [.sc (.int .i64 (IntKind.wrap .i64 ((shlL .i64 1 a0_2) - 1)))], r1.H⟩))
     (some ⟨1, [.sc (.int .i64 (IntKind.wrap .i64 (a0_1 - 1)))], r1.H⟩)))
   (none)) := by kernel_rfl
/- loop.example/g03211/impl.TensorOk -/
theorem e_iTensorOk (C : Oracle) (a0_0 a0_1 a0_2 : Int) (a1_0 a1_1 a1_2 : Sl) (H : AH) : (procM P T C (.fn F.iTensorOk) [.agg [.int .i64 a0_0, .int .i64 a0_1, .int .i64 a0_2], .agg [.sl a1_0, .sl a1_1, .sl a1_2]] H).run =
  (C (.fn F.iRingOk) [.agg [.int .i64 a0_0, .int .i64 a0_1, .int .i64 a0_2]] H).bind fun r1 =>
  (oneP r1.vs).bind fun p2 =>
  p2.sc?.bind fun c3 =>
  (boolAt [c3] 0).bind fun b4 =>
  cond (!b4)
  (some ⟨1, [.sc (.bool false)], r1.H⟩)
  ((C (.fn F.iTensorSize) [.agg [.sl a1_0, .sl a1_1, .sl a1_2]] r1.H).bind fun r5 =>
   (oneP r5.vs).bind fun p6 =>
   p6.sc?.bind fun c7 =>
   (intAt .i64 [c7] 0).bind fun n8 =>
   cond (n8 != (-1))
   ((C (.fn F.irawWidth) [.agg [.int .i64 a0_0, .int .i64 a0_1, .int .i64 a0_2]] r5.H).bind fun r9 =>
    (oneP r9.vs).bind fun p10 =>
    p10.sc?.bind fun c11 =>
    (intAt .i64 [c11] 0).bind fun n12 =>
    cond ((a1_2.n : Int) == (IntKind.wrap .i64 (n8 * n12)))
    ((C (.fn F.iinRing) [.agg [.int .i64 a0_0, .int .i64 a0_1, .int .i64 a0_2], .sc (.sl a1_2)] r9.H).bind fun r13 =>
     (oneP r13.vs).bind fun p14 =>
     p14.sc?.bind fun c15 =>
     (boolAt [c15] 0).bind fun b16 =>
     some ⟨1, [.sc (.bool b16)], r13.H⟩)
    (some ⟨1, [.sc (.bool false)], r9.H⟩))
   (some ⟨1, [.sc (.bool false)], r5.H⟩)) := by kernel_rfl
/- loop.example/g03211/impl.copyInts -/
theorem e_icopyInts (C : Oracle) (a0 : Sl) (H : AH) : (procM P T C (.fn F.icopyInts) [.sc (.sl a0)] H).run =
  (rng H a0.b a0.o (a0.n * 1)).bind fun l1 =>
  (appB H 1 8 ⟨0, 0, 0, 0, true⟩ l1 a0.n).bind fun m2 =>
  some ⟨1, [.sc (.sl m2.1)], m2.2⟩ := by kernel_rfl
/- loop.example/g03211/impl.fillTensor -/
theorem e_ifillTensor_0 (C : Oracle) (x3 : Sl) (x10 x11 : Int) (y9_0 y9_1 y9_2 : Sl) (H : AH) : (procM P T C (.loop F.ifillTensor 0) [.sc (.sl x3), .sc (.int .i64 x10), .sc (.int .i64 x11), .agg [.sl y9_0, .sl y9_1, .sl y9_2]] H).run =
  cond (decide (x11 < x10))
  ((rng H x3.b x3.o (x3.n * 1)).bind fun l14 =>
   (appB H 1 8 y9_2 l14 x3.n).bind fun m15 =>
   C (.loop F.ifillTensor 0) [.sc (.sl x3), .sc (.int .i64 x10), .sc (.int .i64 (IntKind.wrap .i64 (x11 + 1))), .agg [.sl y9_0, .sl y9_1, .sl m15.1]] m15.2)
  (some ⟨2, [.agg [.sl y9_0, .sl y9_1, .sl y9_2]], H⟩) := by kernel_rfl
theorem e_ifillTensor (C : Oracle) (a0_0 a0_1 a0_2 : Int) (a1 a2 a3 : Sl) (H : AH) : (procM P T C (.fn F.ifillTensor) [.agg [.int .i64 a0_0, .int .i64 a0_1, .int .i64 a0_2], .sc (.sl a1), .sc (.sl a2), .sc (.sl a3)] H).run =
  (C (.fn F.icopyInts) [.sc (.sl a1)] H).bind fun r1 =>
  (oneP r1.vs).bind fun p2 =>
  p2.sc?.bind fun c3 =>
  (slAt [c3] 0).bind fun s4 =>
  (C (.fn F.icopyInts) [.sc (.sl a2)] r1.H).bind fun r5 =>
  (oneP r5.vs).bind fun p6 =>
  p6.sc?.bind fun c7 =>
  (slAt [c7] 0).bind fun s8 =>
  (C (.fn F.iproductOf) [.sc (.sl a2)] r5.H).bind fun r9 =>
  (oneP r9.vs).bind fun p10 =>
  p10.sc?.bind fun c11 =>
  (intAt .i64 [c11] 0).bind fun n12 =>
  (mkB r9.H 1 8 [.int .i64 0] 0 (IntKind.wrap .i64 (n12 * (a3.n : Int)))).bind fun m13 =>
  (C (.loop F.ifillTensor 0) [.sc (.sl a3), .sc (.int .i64 n12), .sc (.int .i64 0), .agg [.sl s4, .sl s8, .sl m13.1]] m13.2).bind fun r16 =>
  cond (Nat.beq r16.e 2)
  (((nthP r16.vs 0).bind PV.agg?).bind fun l17 =>
   cond (decide (l17.length = 3))
   ((slAt l17 0).bind fun s18 =>
    (slAt l17 1).bind fun s19 =>
    (slAt l17 2).bind fun s20 =>
    some ⟨1, [.agg [.sl s18, .sl s19, .sl s20]], r16.H⟩)
   (none))
  (none) := by kernel_rfl
/- loop.example/g03211/impl.rawZero -/
theorem e_irawZero (C : Oracle) (a0_0 a0_1 a0_2 : Int) (H : AH) : (procM P T C (.fn F.irawZero) [.agg [.int .i64 a0_0, .int .i64 a0_1, .int .i64 a0_2]] H).run =
  (C (.fn F.irawWidth) [.agg [.int .i64 a0_0, .int .i64 a0_1, .int .i64 a0_2]] H).bind fun r1 =>
  (oneP r1.vs).bind fun p2 =>
  p2.sc?.bind fun c3 =>
  (intAt .i64 [c3] 0).bind fun n4 =>
  (mkB r1.H 1 8 [.int .i64 0] n4 n4).bind fun m5 =>
  cond (a0_0 == 4)
  ((ixA m5.1 0 1).bind fun o6 =>
   (putR m5.2 m5.1.b o6 [.int .i64 a0_1]).bind fun H7 =>
   some ⟨1, [.sc (.sl m5.1)], H7⟩)
  (some ⟨1, [.sc (.sl m5.1)], m5.2⟩) := by kernel_rfl
/- loop.example/g03211/impl.productOf -/
theorem e_iproductOf_0 (C : Oracle) (x3 : Int) (x6 : Sl) (x7 x8 : Int) (H : AH) : (procM P T C (.loop F.iproductOf 0) [.sc (.int .i64 x3), .sc (.sl x6), .sc (.int .i64 x7), .sc (.int .i64 x8)] H).run =
  cond (decide (x8 < x7))
  ((ixA x6 x8 1).bind fun o1 =>
   (rdB H x6.b).bind fun c2 =>
   (intAt .i64 c2 o1).bind fun n3 =>
   C (.loop F.iproductOf 0) [.sc (.int .i64 (IntKind.wrap .i64 (x3 * n3))), .sc (.sl x6), .sc (.int .i64 x7), .sc (.int .i64 (IntKind.wrap .i64 (x8 + 1)))] H)
  (some ⟨2, [.sc (.int .i64 x3)], H⟩) := by kernel_rfl
theorem e_iproductOf (C : Oracle) (a0 : Sl) (H : AH) : (procM P T C (.fn F.iproductOf) [.sc (.sl a0)] H).run =
  (C (.loop F.iproductOf 0) [.sc (.int .i64 1), .sc (.sl a0), .sc (.int .i64 (a0.n : Int)), .sc (.int .i64 0)] H).bind fun r4 =>
  cond (Nat.beq r4.e 2)
  ((nthP r4.vs 0).bind fun p5 =>
   p5.sc?.bind fun c6 =>
   (intAt .i64 [c6] 0).bind fun n7 =>
   some ⟨1, [.sc (.int .i64 n7)], r4.H⟩)
  (none) := by kernel_rfl
/- loop.example/g03211/impl.rawElem -/
theorem e_irawElem (C : Oracle) (a0_0 a0_1 a0_2 : Int) (a1_0 a1_1 a1_2 : Sl) (a2 : Int) (H : AH) : (procM P T C (.fn F.irawElem) [.agg [.int .i64 a0_0, .int .i64 a0_1, .int .i64 a0_2], .agg [.sl a1_0, .sl a1_1, .sl a1_2], .sc (.int .i64 a2)] H).run =
  (C (.fn F.irawWidth) [.agg [.int .i64 a0_0, .int .i64 a0_1, .int .i64 a0_2]] H).bind fun r1 =>
  (oneP r1.vs).bind fun p2 =>
  p2.sc?.bind fun c3 =>
  (intAt .i64 [c3] 0).bind fun n4 =>
  (slB a1_2 (some (IntKind.wrap .i64 (a2 * n4))) (some (IntKind.wrap .i64 ((IntKind.wrap .i64 (a2 + 1)) * n4))) none 1).bind fun s5 =>
  some ⟨1, [.sc (.sl s5)], r1.H⟩ := by kernel_rfl
/- loop.example/g03211/impl.offsetIn -/
theorem e_ioffsetIn_0 (C : Oracle) (x0 : Sl) (x5 : Int) (x8 : Sl) (x9 x10 : Int) (H : AH) : (procM P T C (.loop F.ioffsetIn 0) [.sc (.sl x0), .sc (.int .i64 x5), .sc (.sl x8), .sc (.int .i64 x9), .sc (.int .i64 x10)] H).run =
  cond (decide (x10 < x9))
  ((ixA x8 x10 1).bind fun o1 =>
   (rdB H x8.b).bind fun c2 =>
   (intAt .i64 c2 o1).bind fun n3 =>
   (ixA x0 x10 1).bind fun o4 =>
   (rdB H x0.b).bind fun c5 =>
   (intAt .i64 c5 o4).bind fun n6 =>
   C (.loop F.ioffsetIn 0) [.sc (.sl x0), .sc (.int .i64 (IntKind.wrap .i64 ((IntKind.wrap .i64 (x5 * n6)) + n3))), .sc (.sl x8), .sc (.int .i64 x9), .sc (.int .i64 (IntKind.wrap .i64 (x10 + 1)))] H)
  (some ⟨2, [.sc (.int .i64 x5)], H⟩) := by kernel_rfl
theorem e_ioffsetIn (C : Oracle) (a0 a1 : Sl) (H : AH) : (procM P T C (.fn F.ioffsetIn) [.sc (.sl a0), .sc (.sl a1)] H).run =
  (C (.loop F.ioffsetIn 0) [.sc (.sl a0), .sc (.int .i64 0), .sc (.sl a1), .sc (.int .i64 (a1.n : Int)), .sc (.int .i64 0)] H).bind fun r7 =>
  cond (Nat.beq r7.e 2)
  ((nthP r7.vs 0).bind fun p8 =>
   p8.sc?.bind fun c9 =>
   (intAt .i64 [c9] 0).bind fun n10 =>
   some ⟨1, [.sc (.int .i64 n10)], r7.H⟩)
  (none) := by kernel_rfl
/- loop.example/g03211/impl.phaseOf -/
theorem e_iphaseOf (C : Oracle) (a0 : Int) (H : AH) : (procM P T C (.fn F.iphaseOf) [.sc (.int .i64 a0)] H).run =
  ((cond (a0 == 2)
   (some ⟨0, [.sc (.bool (a0 == 2))], H⟩)
   (some ⟨0, [.sc (.bool (a0 == 9))], H⟩) : Option Out)).bind fun r1 =>
  cond (Nat.beq r1.e 0)
  ((nthP r1.vs 0).bind fun p2 =>
   p2.sc?.bind fun c3 =>
   (boolAt [c3] 0).bind fun b4 =>
   cond b4
   (some ⟨1, [.sc (.int .i64 4), .sc (.bool true)], r1.H⟩)
   (cond (a0 == 3)
    (some ⟨1, [.sc (.int .i64 2), .sc (.bool true)], r1.H⟩)
    (cond (a0 == 4)
     (some ⟨1, [.sc (.int .i64 1), .sc (.bool true)], r1.H⟩)
     (cond (a0 == 6)
      (some ⟨1, [.sc (.int .i64 6), .sc (.bool true)], r1.H⟩)
      (cond (a0 == 7)
       (some ⟨1, [.sc (.int .i64 7), .sc (.bool true)], r1.H⟩)
       (some ⟨1, [.sc (.int .i64 0), .sc (.bool false)], r1.H⟩))))))
  (none) := by kernel_rfl
/- loop.example/g03211/impl.rawInverse -/
theorem e_irawInverse_0 (C : Oracle) (x0 x1 x5 x6 : Int) (H : AH) : (procM P T C (.loop F.irawInverse 0) [.sc (.int .i64 x0), .sc (.int .i64 x1), .sc (.int .i64 x5), .sc (.int .i64 x6)] H).run =
  cond (decide (x6 > 0))
  (cond ((bitAnd .i64 x6 1) == 1)
   (cond (x0 == 0)
    (none)
    (cond (x0 == 0)
     (none)
     (C (.loop F.irawInverse 0) [.sc (.int .i64 x0), .sc (.int .i64 (Int.tmod (IntKind.wrap .i64 (x1 * x1)) x0)), .sc (.int .i64 (Int.tmod (IntKind.wrap .i64 (x5 * x1)) x0)), .sc (.int .i64 (shlR .i64 x6 1))] H)))
   (cond (x0 == 0)
    (none)
    (C (.loop F.irawInverse 0) [.sc (.int .i64 x0), .sc (.int .i64 (Int.tmod (IntKind.wrap .i64 (x1 * x1)) x0)), .sc (.int .i64 x5), .sc (.int .i64 (shlR .i64 x6 1))] H)))
  (some ⟨2, [.sc (.int .i64 x5)], H⟩) := by kernel_rfl
theorem e_irawInverse (C : Oracle) (a0 a1 : Int) (H : AH) : (procM P T C (.fn F.irawInverse) [.sc (.int .i64 a0), .sc (.int .i64 a1)] H).run =
  (C (.loop F.irawInverse 0) [.sc (.int .i64 a0), .sc (.int .i64 a1), .sc (.int .i64 1), .sc (.int .i64 (IntKind.wrap .i64 (a0 - 2)))] H).bind fun r1 =>
  cond (Nat.beq r1.e 2)
  ((nthP r1.vs 0).bind fun p2 =>
   p2.sc?.bind fun c3 =>
   (intAt .i64 [c3] 0).bind fun n4 =>
   some ⟨1, [.sc (.int .i64 n4)], r1.H⟩)
  (none) := by kernel_rfl
/- loop.example/g03211/spec.l02Zero -/
theorem e_sl02Zero (C : Oracle) (a0_0 a0_1 a0_2 : Int) (H : AH) : (procM P T C (.fn F.sl02Zero) [.agg [.int .i64 a0_0, .int .i64 a0_1, .int .i64 a0_2]] H).run =
  (C (.fn F.sl02Width) [.agg [.int .i64 a0_0, .int .i64 a0_1, .int .i64 a0_2]] H).bind fun r1 =>
  (oneP r1.vs).bind fun p2 =>
  p2.sc?.bind fun c3 =>
  (intAt .i64 [c3] 0).bind fun n4 =>
  (mkB r1.H 1 8 [.int .i64 0] n4 n4).bind fun m5 =>
  cond (a0_0 == 4)
  ((ixA m5.1 0 1).bind fun o6 =>
   (putR m5.2 m5.1.b o6 [.int .i64 a0_1]).bind fun H7 =>
   some ⟨1, [.sc (.sl m5.1)], H7⟩)
  (some ⟨1, [.sc (.sl m5.1)], m5.2⟩) := by kernel_rfl
/- loop.example/g03211/spec.l12Dim -/
theorem e_sl12Dim_0 (C : Oracle) (x1 : Int) (x8 : Sl) (x9 x10 : Int) (H : AH) : (procM P T C (.loop F.sl12Dim 0) [.sc (.int .i64 x1), .sc (.sl x8), .sc (.int .i64 x9), .sc (.int .i64 x10)] H).run =
  cond (decide (x10 < x9))
  ((ixA x8 x10 3).bind fun o1 =>
   (rdB H x8.b).bind fun c2 =>
   (slAt c2 o1).bind fun s3 =>
   (slAt c2 (o1 + 1)).bind fun s4 =>
   (slAt c2 (o1 + 1 + 1)).bind fun s5 =>
   (C (.fn F.sl05Find) [.sc (.sl s3), .sc (.int .i64 x1)] H).bind fun r6 =>
   (oneP r6.vs).bind fun p7 =>
   p7.sc?.bind fun c8 =>
   (intAt .i64 [c8] 0).bind fun n9 =>
   cond (decide (n9 ≥ 0))
   ((ixA s4 n9 1).bind fun o10 =>
    (rdB r6.H s4.b).bind fun c11 =>
    (intAt .i64 c11 o10).bind fun n12 =>
    some ⟨1, [.sc (.int .i64 n12)], r6.H⟩)
   (C (.loop F.sl12Dim 0) [.sc (.int .i64 x1), .sc (.sl x8), .sc (.int .i64 x9), .sc (.int .i64 (IntKind.wrap .i64 (x10 + 1)))] r6.H))
  (some ⟨2, [], H⟩) := by kernel_rfl
theorem e_sl12Dim (C : Oracle) (a0 : Sl) (a1 : Int) (H : AH) : (procM P T C (.fn F.sl12Dim) [.sc (.sl a0), .sc (.int .i64 a1)] H).run =
  (C (.loop F.sl12Dim 0) [.sc (.int .i64 a1), .sc (.sl a0), .sc (.int .i64 (a0.n : Int)), .sc (.int .i64 0)] H).bind fun r13 =>
  cond (Nat.beq r13.e 1)
  ((nthP r13.vs 0).bind fun p14 =>
   p14.sc?.bind fun c15 =>
   (intAt .i64 [c15] 0).bind fun n16 =>
   some ⟨1, [.sc (.int .i64 n16)], r13.H⟩)
  (cond (Nat.beq r13.e 2)
   (some ⟨1, [.sc (.int .i64 0)], r13.H⟩)
   (none)) := by kernel_rfl
/- loop.example/g03211/spec.l12Dims -/
theorem e_sl12Dims_0 (C : Oracle) (x0 x5 x9 : Sl) (x10 x11 : Int) (H : AH) : (procM P T C (.loop F.sl12Dims 0) [.sc (.sl x0), .sc (.sl x5), .sc (.sl x9), .sc (.int .i64 x10), .sc (.int .i64 x11)] H).run =
  cond (decide (x11 < x10))
  ((ixA x9 x11 1).bind fun o2 =>
   (rdB H x9.b).bind fun c3 =>
   (intAt .i64 c3 o2).bind fun n4 =>
   (C (.fn F.sl12Dim) [.sc (.sl x0), .sc (.int .i64 n4)] H).bind fun r5 =>
   (oneP r5.vs).bind fun p6 =>
   p6.sc?.bind fun c7 =>
   (intAt .i64 [c7] 0).bind fun n8 =>
   (newB r5.H 1 [.int .i64 n8]).bind fun h9 =>
   (rng h9.2 h9.1 0 (1 * 1)).bind fun l10 =>
   (appB h9.2 1 8 x5 l10 1).bind fun m11 =>
   C (.loop F.sl12Dims 0) [.sc (.sl x0), .sc (.sl m11.1), .sc (.sl x9), .sc (.int .i64 x10), .sc (.int .i64 (IntKind.wrap .i64 (x11 + 1)))] m11.2)
  (some ⟨2, [.sc (.sl x5)], H⟩) := by kernel_rfl
theorem e_sl12Dims (C : Oracle) (a0 a1 : Sl) (H : AH) : (procM P T C (.fn F.sl12Dims) [.sc (.sl a0), .sc (.sl a1)] H).run =
  (newB H 1 []).bind fun h1 =>
  (C (.loop F.sl12Dims 0) [.sc (.sl a0), .sc (.sl ⟨h1.1, 0, 0, 0, true⟩), .sc (.sl a1), .sc (.int .i64 (a1.n : Int)), .sc (.int .i64 0)] h1.2).bind fun r12 =>
  cond (Nat.beq r12.e 2)
  ((nthP r12.vs 0).bind fun p13 =>
   p13.sc?.bind fun c14 =>
   (slAt [c14] 0).bind fun s15 =>
   some ⟨1, [.sc (.sl s15)], r12.H⟩)
  (none) := by kernel_rfl
/- loop.example/g03211/impl.hasInt -/
theorem e_ihasInt_0 (C : Oracle) (x1 : Int) (x7 : Sl) (x8 x9 : Int) (H : AH) : (procM P T C (.loop F.ihasInt 0) [.sc (.int .i64 x1), .sc (.sl x7), .sc (.int .i64 x8), .sc (.int .i64 x9)] H).run =
  cond (decide (x9 < x8))
  ((ixA x7 x9 1).bind fun o1 =>
   (rdB H x7.b).bind fun c2 =>
   (intAt .i64 c2 o1).bind fun n3 =>
   cond (x1 == n3)
   (some ⟨1, [.sc (.bool true)], H⟩)
   (C (.loop F.ihasInt 0) [.sc (.int .i64 x1), .sc (.sl x7), .sc (.int .i64 x8), .sc (.int .i64 (IntKind.wrap .i64 (x9 + 1)))] H))
  (some ⟨2, [], H⟩) := by kernel_rfl
theorem e_ihasInt (C : Oracle) (a0 : Sl) (a1 : Int) (H : AH) : (procM P T C (.fn F.ihasInt) [.sc (.sl a0), .sc (.int .i64 a1)] H).run =
  (C (.loop F.ihasInt 0) [.sc (.int .i64 a1), .sc (.sl a0), .sc (.int .i64 (a0.n : Int)), .sc (.int .i64 0)] H).bind fun r4 =>
  cond (Nat.beq r4.e 1)
  ((nthP r4.vs 0).bind fun p5 =>
   p5.sc?.bind fun c6 =>
   (boolAt [c6] 0).bind fun b7 =>
   some ⟨1, [.sc (.bool b7)], r4.H⟩)
  (cond (Nat.beq r4.e 2)
   (some ⟨1, [.sc (.bool false)], r4.H⟩)
   (none)) := by kernel_rfl
/- loop.example/g03211/impl.clauseTrue -/
theorem e_iclauseTrue_0 (C : Oracle) (x1 x7 : Sl) (x8 x9 : Int) (H : AH) : (procM P T C (.loop F.iclauseTrue 0) [.sc (.sl x1), .sc (.sl x7), .sc (.int .i64 x8), .sc (.int .i64 x9)] H).run =
  cond (decide (x9 < x8))
  ((ixA x7 x9 1).bind fun o1 =>
   (rdB H x7.b).bind fun c2 =>
   (intAt .i64 c2 o1).bind fun n3 =>
   (C (.fn F.ivariableOf) [.sc (.int .i64 n3)] H).bind fun r4 =>
   (oneP r4.vs).bind fun p5 =>
   p5.sc?.bind fun c6 =>
   (intAt .i64 [c6] 0).bind fun n7 =>
   (ixA x1 (IntKind.wrap .i64 (n7 - 1)) 1).bind fun o8 =>
   (rdB r4.H x1.b).bind fun c9 =>
   (intAt .i64 c9 o8).bind fun n10 =>
   cond ((n10 == 1) == (decide (n3 > 0)))
   (some ⟨1, [.sc (.bool true)], r4.H⟩)
   (C (.loop F.iclauseTrue 0) [.sc (.sl x1), .sc (.sl x7), .sc (.int .i64 x8), .sc (.int .i64 (IntKind.wrap .i64 (x9 + 1)))] r4.H))
  (some ⟨2, [], H⟩) := by kernel_rfl
theorem e_iclauseTrue (C : Oracle) (a0 a1 : Sl) (H : AH) : (procM P T C (.fn F.iclauseTrue) [.sc (.sl a0), .sc (.sl a1)] H).run =
  (C (.loop F.iclauseTrue 0) [.sc (.sl a1), .sc (.sl a0), .sc (.int .i64 (a0.n : Int)), .sc (.int .i64 0)] H).bind fun r11 =>
  cond (Nat.beq r11.e 1)
  ((nthP r11.vs 0).bind fun p12 =>
   p12.sc?.bind fun c13 =>
   (boolAt [c13] 0).bind fun b14 =>
   some ⟨1, [.sc (.bool b14)], r11.H⟩)
  (cond (Nat.beq r11.e 2)
   (some ⟨1, [.sc (.bool false)], r11.H⟩)
   (none)) := by kernel_rfl
/- loop.example/g03211/impl.nextIndex -/
theorem e_inextIndex_0 (C : Oracle) (x0 x1 : Sl) (x5 : Int) (H : AH) : (procM P T C (.loop F.inextIndex 0) [.sc (.sl x0), .sc (.sl x1), .sc (.int .i64 x5)] H).run =
  cond (decide (x5 ≥ 0))
  ((ixA x1 x5 1).bind fun o1 =>
   (rdB H x1.b).bind fun c2 =>
   (intAt .i64 c2 o1).bind fun n3 =>
   (ixA x1 x5 1).bind fun o4 =>
   (putR H x1.b o4 [.int .i64 (IntKind.wrap .i64 (n3 + 1))]).bind fun H5 =>
   (ixA x1 x5 1).bind fun o6 =>
   (rdB H5 x1.b).bind fun c7 =>
   (intAt .i64 c7 o6).bind fun n8 =>
   (ixA x0 x5 1).bind fun o9 =>
   (rdB H5 x0.b).bind fun c10 =>
   (intAt .i64 c10 o9).bind fun n11 =>
   cond (decide (n8 < n11))
   (some ⟨1, [.sc (.bool true)], H5⟩)
   ((ixA x1 x5 1).bind fun o12 =>
    (putR H5 x1.b o12 [.int .i64 0]).bind fun H13 =>
    C (.loop F.inextIndex 0) [.sc (.sl x0), .sc (.sl x1), .sc (.int .i64 (IntKind.wrap .i64 (x5 - 1)))] H13))
  (some ⟨2, [], H⟩) := by kernel_rfl
theorem e_inextIndex (C : Oracle) (a0 a1 : Sl) (H : AH) : (procM P T C (.fn F.inextIndex) [.sc (.sl a0), .sc (.sl a1)] H).run =
  (C (.loop F.inextIndex 0) [.sc (.sl a0), .sc (.sl a1), .sc (.int .i64 (IntKind.wrap .i64 ((a0.n : Int) - 1)))] H).bind fun r14 =>
  cond (Nat.beq r14.e 1)
  ((nthP r14.vs 0).bind fun p15 =>
   p15.sc?.bind fun c16 =>
   (boolAt [c16] 0).bind fun b17 =>
   some ⟨1, [.sc (.bool b17)], r14.H⟩)
  (cond (Nat.beq r14.e 2)
   (some ⟨1, [.sc (.bool false)], r14.H⟩)
   (none)) := by kernel_rfl
/- loop.example/g03211/impl.rawWidth -/
theorem e_irawWidth (C : Oracle) (a0_0 a0_1 a0_2 : Int) (H : AH) : (procM P T C (.fn F.irawWidth) [.agg [.int .i64 a0_0, .int .i64 a0_1, .int .i64 a0_2]] H).run =
  cond (a0_0 == 7)
  (some ⟨1, [.sc (.int .i64 a0_2)], H⟩)
  (cond (a0_0 == 8)
   (some ⟨1, [.sc (.int .i64 4)], H⟩)
   (some ⟨1, [.sc (.int .i64 1)], H⟩)) := by kernel_rfl
/- loop.example/g03211/impl.rawTop -/
theorem e_irawTop (C : Oracle) (a0_0 a0_1 a0_2 : Int) (H : AH) : (procM P T C (.fn F.irawTop) [.agg [.int .i64 a0_0, .int .i64 a0_1, .int .i64 a0_2]] H).run =
  cond (a0_0 == 1)
  (some ⟨1, [.sc (.int .i64 1)], H⟩)
  (((cond (a0_0 == 3)
   (some ⟨0, [.sc (.bool (a0_0 == 3))], H⟩)
   (cond (a0_0 == 4)
    (some ⟨0, [.sc (.bool (a0_0 == 4))], H⟩)
    (some ⟨0, [.sc (.bool (a0_0 == 5))], H⟩)) : Option Out)).bind fun r1 =>
   cond (Nat.beq r1.e 0)
   ((nthP r1.vs 0).bind fun p2 =>
    p2.sc?.bind fun c3 =>
    (boolAt [c3] 0).bind fun b4 =>
    cond b4
    (some ⟨1, [.sc (.int .i64 a0_1)], r1.H⟩)
    (cond (a0_0 == 6)
     (cond (decide (a0_2 < 0))
      (none)
      (some ⟨1, [.sc (.int .i64 (IntKind.wrap .i64 ((shlL .i64 1 a0_2) - 1)))], r1.H⟩))
     (some ⟨1, [.sc (.int .i64 (IntKind.wrap .i64 (a0_1 - 1)))], r1.H⟩)))
   (none)) := by kernel_rfl
/- loop.example/g03211/impl.dimsOf -/
theorem e_idimsOf_0 (C : Oracle) (x9 : Sl) (x10 x11 : Int) (y2 y4 : List Sc) (H : AH) : (procM P T C (.loop F.idimsOf 0) [.sc (.sl x9), .sc (.int .i64 x10), .sc (.int .i64 x11), .agg y2, .agg y4] H).run =
  cond (decide (x11 < x10))
  ((ixA x9 x11 3).bind fun o1 =>
   (rdB H x9.b).bind fun c2 =>
   (slAt c2 o1).bind fun s3 =>
   (slAt c2 (o1 + 1)).bind fun s4 =>
   (slAt c2 (o1 + 1 + 1)).bind fun s5 =>
   (C (.loop F.idimsOf 1) [.sc (.sl s3), .sc (.int .i64 (s3.n : Int)), .sc (.int .i64 0), .agg y2, .agg y4, .agg [.sl s3, .sl s4, .sl s5]] H).bind fun r26 =>
   cond (Nat.beq r26.e 1)
   ((nthP r26.vs 0).bind fun p27 =>
    p27.sc?.bind fun c28 =>
    (boolAt [c28] 0).bind fun b29 =>
    ((nthP r26.vs 1).bind PV.agg?).bind fun l30 =>
    cond (decide (l30.length = 100))
    (((nthP r26.vs 2).bind PV.agg?).bind fun l31 =>
     cond (decide (l31.length = 100))
     (some ⟨1, [.sc (.bool b29), .agg l30, .agg l31], r26.H⟩)
     (none))
    (none))
   (cond (Nat.beq r26.e 4)
    (((nthP r26.vs 0).bind PV.agg?).bind fun l32 =>
     cond (decide (l32.length = 100))
     (((nthP r26.vs 1).bind PV.agg?).bind fun l33 =>
      cond (decide (l33.length = 100))
      (C (.loop F.idimsOf 0) [.sc (.sl x9), .sc (.int .i64 x10), .sc (.int .i64 (IntKind.wrap .i64 (x11 + 1))), .agg l32, .agg l33] r26.H)
      (none))
     (none))
    (none)))
  (some ⟨2, [.agg y2, .agg y4], H⟩) := by kernel_rfl
theorem e_idimsOf_1 (C : Oracle) (x16 : Sl) (x17 x18 : Int) (y2 y4 : List Sc) (y6_0 y6_1 y6_2 : Sl) (H : AH) : (procM P T C (.loop F.idimsOf 1) [.sc (.sl x16), .sc (.int .i64 x17), .sc (.int .i64 x18), .agg y2, .agg y4, .agg [.sl y6_0, .sl y6_1, .sl y6_2]] H).run =
  cond (decide (x18 < x17))
  ((ixA x16 x18 1).bind fun o6 =>
   (rdB H x16.b).bind fun c7 =>
   (intAt .i64 c7 o6).bind fun n8 =>
   (((ixA ⟨0, 0, 100, 100, true⟩ n8 1).bind fun o9 =>
   (intAt .i64 y4 o9).bind fun n10 =>
   cond (n10 != 0)
   ((ixA ⟨0, 0, 100, 100, true⟩ n8 1).bind fun o11 =>
    (intAt .i64 y4 o11).bind fun n12 =>
    (ixA y6_1 x18 1).bind fun o13 =>
    (rdB H y6_1.b).bind fun c14 =>
    (intAt .i64 c14 o13).bind fun n15 =>
    cond (n12 != n15)
    (cond (decide (100 ≤ y4.length))
     (cond (Nat.beq ((y4.drop 0).take 100).length 100)
      (cond (decide (0 + ((y4.drop 0).take 100).length ≤ y2.length))
       (some ⟨1, [.sc (.bool false), .agg (setAll y2 0 ((y4.drop 0).take 100))], H⟩)
       (none))
      (none))
     (none))
    (some ⟨0, [.agg y2], H⟩))
   (some ⟨0, [.agg y2], H⟩) : Option Out)).bind fun r16 =>
   cond (Nat.beq r16.e 0)
   (((nthP r16.vs 0).bind PV.agg?).bind fun l17 =>
    cond (decide (l17.length = 100))
    ((ixA y6_1 x18 1).bind fun o18 =>
     (rdB r16.H y6_1.b).bind fun c19 =>
     (intAt .i64 c19 o18).bind fun n20 =>
     (ixA ⟨0, 0, 100, 100, true⟩ n8 1).bind fun o21 =>
     cond (decide (o21 + 1 ≤ y4.length))
     (C (.loop F.idimsOf 1) [.sc (.sl x16), .sc (.int .i64 x17), .sc (.int .i64 (IntKind.wrap .i64 (x18 + 1))), .agg l17, .agg (y4.set o21 (.int .i64 n20)), .agg [.sl y6_0, .sl y6_1, .sl y6_2]] r16.H)
     (none))
    (none))
   (cond (Nat.beq r16.e 1)
    ((nthP r16.vs 0).bind fun p22 =>
     p22.sc?.bind fun c23 =>
     (boolAt [c23] 0).bind fun b24 =>
     ((nthP r16.vs 1).bind PV.agg?).bind fun l25 =>
     cond (decide (l25.length = 100))
     (some ⟨1, [.sc (.bool b24), .agg l25, .agg y4], r16.H⟩)
     (none))
    (none)))
  (some ⟨4, [.agg y2, .agg y4], H⟩) := by kernel_rfl
theorem e_idimsOf (C : Oracle) (a0 : Sl) (H : AH) : (procM P T C (.fn F.idimsOf) [.sc (.sl a0)] H).run =
  (C (.loop F.idimsOf 0) [.sc (.sl a0), .sc (.int .i64 (a0.n : Int)), .sc (.int .i64 0), .agg (zc P Y.t100_int), .agg (zc P Y.t100_int)] H).bind fun r34 =>
  cond (Nat.beq r34.e 1)
  ((nthP r34.vs 0).bind fun p35 =>
   p35.sc?.bind fun c36 =>
   (boolAt [c36] 0).bind fun b37 =>
   ((nthP r34.vs 1).bind PV.agg?).bind fun l38 =>
   cond (decide (l38.length = 100))
   (((nthP r34.vs 2).bind PV.agg?).bind fun l39 =>
    cond (decide (l39.length = 100))
    (cond (decide (100 ≤ l38.length))
     (some ⟨1, [.agg ((l38.drop 0).take 100), .sc (.bool b37)], r34.H⟩)
     (none))
    (none))
   (none))
  (cond (Nat.beq r34.e 2)
   (((nthP r34.vs 0).bind PV.agg?).bind fun l40 =>
    cond (decide (l40.length = 100))
    (((nthP r34.vs 1).bind PV.agg?).bind fun l41 =>
     cond (decide (l41.length = 100))
     (cond (decide (100 ≤ l41.length))
      (cond (Nat.beq ((l41.drop 0).take 100).length 100)
       (cond (decide (0 + ((l41.drop 0).take 100).length ≤ l40.length))
        (cond (decide (100 ≤ (setAll l40 0 ((l41.drop 0).take 100)).length))
         (some ⟨1, [.agg (((setAll l40 0 ((l41.drop 0).take 100)).drop 0).take 100), .sc (.bool true)], r34.H⟩)
         (none))
        (none))
       (none))
      (none))
     (none))
    (none))
   (none)) := by kernel_rfl
/- loop.example/g03211/impl.TensorSize -/
theorem e_iTensorSize_0 (C : Oracle) (x3 : Int) (x21 : Sl) (x22 x23 : Int) (y1_0 y1_1 y1_2 : Sl) (H : AH) : (procM P T C (.loop F.iTensorSize 0) [.sc (.int .i64 x3), .sc (.sl x21), .sc (.int .i64 x22), .sc (.int .i64 x23), .agg [.sl y1_0, .sl y1_1, .sl y1_2]] H).run =
  cond (decide (x23 < x22))
  ((ixA x21 x23 1).bind fun o1 =>
   (rdB H x21.b).bind fun c2 =>
   (intAt .i64 c2 o1).bind fun n3 =>
   cond (decide (n3 < 0))
   (some ⟨1, [.sc (.int .i64 (-1))], H⟩)
   (cond (decide (n3 > 99))
    (some ⟨1, [.sc (.int .i64 (-1))], H⟩)
    ((slB y1_0 none (some x23) none 1).bind fun s4 =>
     (C (.fn F.ihasInt) [.sc (.sl s4), .sc (.int .i64 n3)] H).bind fun r5 =>
     (oneP r5.vs).bind fun p6 =>
     p6.sc?.bind fun c7 =>
     (boolAt [c7] 0).bind fun b8 =>
     cond b8
     (some ⟨1, [.sc (.int .i64 (-1))], r5.H⟩)
     ((ixA y1_1 x23 1).bind fun o9 =>
      (rdB r5.H y1_1.b).bind fun c10 =>
      (intAt .i64 c10 o9).bind fun n11 =>
      cond (decide (n11 < 1))
      (some ⟨1, [.sc (.int .i64 (-1))], r5.H⟩)
      (cond (decide (n11 > 8))
       (some ⟨1, [.sc (.int .i64 (-1))], r5.H⟩)
       (cond (decide ((IntKind.wrap .i64 (x3 * n11)) > 4096))
        (some ⟨1, [.sc (.int .i64 (-1))], r5.H⟩)
        (C (.loop F.iTensorSize 0) [.sc (.int .i64 (IntKind.wrap .i64 (x3 * n11))), .sc (.sl x21), .sc (.int .i64 x22), .sc (.int .i64 (IntKind.wrap .i64 (x23 + 1))), .agg [.sl y1_0, .sl y1_1, .sl y1_2]] r5.H)))))))
  (some ⟨2, [.sc (.int .i64 x3)], H⟩) := by kernel_rfl
theorem e_iTensorSize (C : Oracle) (a0_0 a0_1 a0_2 : Sl) (H : AH) : (procM P T C (.fn F.iTensorSize) [.agg [.sl a0_0, .sl a0_1, .sl a0_2]] H).run =
  cond (decide ((a0_0.n : Int) > 12))
  (some ⟨1, [.sc (.int .i64 (-1))], H⟩)
  (cond ((a0_0.n : Int) != (a0_1.n : Int))
   (some ⟨1, [.sc (.int .i64 (-1))], H⟩)
   ((C (.loop F.iTensorSize 0) [.sc (.int .i64 1), .sc (.sl a0_0), .sc (.int .i64 (a0_0.n : Int)), .sc (.int .i64 0), .agg [.sl a0_0, .sl a0_1, .sl a0_2]] H).bind fun r12 =>
    cond (Nat.beq r12.e 1)
    ((nthP r12.vs 0).bind fun p13 =>
     p13.sc?.bind fun c14 =>
     (intAt .i64 [c14] 0).bind fun n15 =>
     some ⟨1, [.sc (.int .i64 n15)], r12.H⟩)
    (cond (Nat.beq r12.e 2)
     ((nthP r12.vs 0).bind fun p16 =>
      p16.sc?.bind fun c17 =>
      (intAt .i64 [c17] 0).bind fun n18 =>
      some ⟨1, [.sc (.int .i64 n18)], r12.H⟩)
     (none)))) := by kernel_rfl
/- loop.example/g03211/impl.axesOf -/
theorem e_iaxesOf_0 (C : Oracle) (x14 : Sl) (x15 x16 : Int) (y2 : List Sc) (y5_0 y5_1 y5_2 : Sl) (H : AH) : (procM P T C (.loop F.iaxesOf 0) [.sc (.sl x14), .sc (.int .i64 x15), .sc (.int .i64 x16), .agg y2, .agg [.sl y5_0, .sl y5_1, .sl y5_2]] H).run =
  cond (decide (x16 < x15))
  ((ixA x14 x16 1).bind fun o6 =>
   (rdB H x14.b).bind fun c7 =>
   (intAt .i64 c7 o6).bind fun n8 =>
   (ixA ⟨0, 0, 100, 100, true⟩ n8 1).bind fun o9 =>
   (intAt .i64 y2 o9).bind fun n10 =>
   (ixA y5_1 x16 1).bind fun o11 =>
   (putR H y5_1.b o11 [.int .i64 n10]).bind fun H12 =>
   C (.loop F.iaxesOf 0) [.sc (.sl x14), .sc (.int .i64 x15), .sc (.int .i64 (IntKind.wrap .i64 (x16 + 1))), .agg y2, .agg [.sl y5_0, .sl y5_1, .sl y5_2]] H12)
  (some ⟨2, [], H⟩) := by kernel_rfl
theorem e_iaxesOf (C : Oracle) (a0 : List Sc) (a1 : Sl) (H : AH) : (procM P T C (.fn F.iaxesOf) [.agg a0, .sc (.sl a1)] H).run =
  (C (.fn F.icopyInts) [.sc (.sl a1)] ((reserve H 1).set (H.length + 0) deadB)).bind fun r1 =>
  (oneP r1.vs).bind fun p2 =>
  p2.sc?.bind fun c3 =>
  (slAt [c3] 0).bind fun s4 =>
  cond (decide (r1.H.length ≥ (reserve H 1).length))
  ((mkAt (restB (reserve H 1) r1.H (H.length + 0)) (H.length + 0) 1 8 [.int .i64 0] (a1.n : Int) (a1.n : Int)).bind fun m5 =>
   (C (.loop F.iaxesOf 0) [.sc (.sl a1), .sc (.int .i64 (a1.n : Int)), .sc (.int .i64 0), .agg a0, .agg [.sl s4, .sl m5.1, .sl ⟨0, 0, 0, 0, true⟩]] m5.2).bind fun r13 =>
   cond (Nat.beq r13.e 2)
   (some ⟨1, [.agg [.sl s4, .sl m5.1, .sl ⟨0, 0, 0, 0, true⟩]], r13.H⟩)
   (none))
  (none) := by kernel_rfl
/- loop.example/g03211/spec.l40Matrix -/
theorem e_sl40Matrix (C : Oracle) (a0 a1 : Int) (H : AH) : (procM P T C (.fn F.sl40Matrix) [.sc (.int .i64 a0), .sc (.int .i64 a1)] H).run =
  (newB H 1 [.int .i64 0, .int .i64 0, .int .i64 0, .int .i64 0]).bind fun h1 =>
  (newB h1.2 1 [.int .i64 1, .int .i64 0, .int .i64 0, .int .i64 0]).bind fun h2 =>
  (newB h2.2 1 [.int .i64 (IntKind.wrap .i64 (a0 - 1)), .int .i64 0, .int .i64 0, .int .i64 0]).bind fun h3 =>
  (newB h3.2 1 [.int .i64 0, .int .i64 (IntKind.wrap .i64 (Int.tdiv (IntKind.wrap .i64 (a0 + 1)) 2)), .int .i64 0, .int .i64 (IntKind.wrap .i64 (a0 - (IntKind.wrap .i64 (Int.tdiv (IntKind.wrap .i64 (a0 + 1)) 2))))]).bind fun h4 =>
  cond (a1 == 1)
  ((newB h4.2 1 [.sl ⟨h1.1, 0, 4, 4, true⟩, .sl ⟨h2.1, 0, 4, 4, true⟩, .sl ⟨h2.1, 0, 4, 4, true⟩, .sl ⟨h1.1, 0, 4, 4, true⟩]).bind fun h5 =>
   some ⟨1, [.sc (.sl ⟨h5.1, 0, 4, 4, true⟩)], h5.2⟩)
  (cond (a1 == 5)
   ((newB h4.2 1 [.int .i64 0, .int .i64 (IntKind.wrap .i64 (a0 - (IntKind.wrap .i64 (Int.tdiv (IntKind.wrap .i64 (a0 + 1)) 2)))), .int .i64 0, .int .i64 (IntKind.wrap .i64 (Int.tdiv (IntKind.wrap .i64 (a0 + 1)) 2))]).bind fun h6 =>
    (newB h6.2 1 [.sl ⟨h4.1, 0, 4, 4, true⟩, .sl ⟨h4.1, 0, 4, 4, true⟩, .sl ⟨h4.1, 0, 4, 4, true⟩, .sl ⟨h6.1, 0, 4, 4, true⟩]).bind fun h7 =>
    some ⟨1, [.sc (.sl ⟨h7.1, 0, 4, 4, true⟩)], h7.2⟩)
   (cond (a1 == 8)
    ((newB h4.2 1 [.sl ⟨h2.1, 0, 4, 4, true⟩, .sl ⟨h1.1, 0, 4, 4, true⟩, .sl ⟨h1.1, 0, 4, 4, true⟩, .sl ⟨h1.1, 0, 4, 4, true⟩, .sl ⟨h1.1, 0, 4, 4, true⟩, .sl ⟨h2.1, 0, 4, 4, true⟩, .sl ⟨h1.1, 0, 4, 4, true⟩, .sl ⟨h1.1, 0, 4, 4, true⟩, .sl ⟨h1.1, 0, 4, 4, true⟩, .sl ⟨h1.1, 0, 4, 4, true⟩, .sl ⟨h1.1, 0, 4, 4, true⟩, .sl ⟨h2.1, 0, 4, 4, true⟩, .sl ⟨h1.1, 0, 4, 4, true⟩, .sl ⟨h1.1, 0, 4, 4, true⟩, .sl ⟨h2.1, 0, 4, 4, true⟩, .sl ⟨h1.1, 0, 4, 4, true⟩]).bind fun h8 =>
     some ⟨1, [.sc (.sl ⟨h8.1, 0, 16, 16, true⟩)], h8.2⟩)
    (cond (a1 == 9)
     ((newB h4.2 1 [.sl ⟨h2.1, 0, 4, 4, true⟩, .sl ⟨h1.1, 0, 4, 4, true⟩, .sl ⟨h1.1, 0, 4, 4, true⟩, .sl ⟨h1.1, 0, 4, 4, true⟩, .sl ⟨h1.1, 0, 4, 4, true⟩, .sl ⟨h2.1, 0, 4, 4, true⟩, .sl ⟨h1.1, 0, 4, 4, true⟩, .sl ⟨h1.1, 0, 4, 4, true⟩, .sl ⟨h1.1, 0, 4, 4, true⟩, .sl ⟨h1.1, 0, 4, 4, true⟩, .sl ⟨h2.1, 0, 4, 4, true⟩, .sl ⟨h1.1, 0, 4, 4, true⟩, .sl ⟨h1.1, 0, 4, 4, true⟩, .sl ⟨h1.1, 0, 4, 4, true⟩, .sl ⟨h1.1, 0, 4, 4, true⟩, .sl ⟨h3.1, 0, 4, 4, true⟩]).bind fun h9 =>
      some ⟨1, [.sc (.sl ⟨h9.1, 0, 16, 16, true⟩)], h9.2⟩)
     (cond (a1 == 2)
      ((newB h4.2 1 [.sl ⟨h2.1, 0, 4, 4, true⟩, .sl ⟨h1.1, 0, 4, 4, true⟩, .sl ⟨h1.1, 0, 4, 4, true⟩, .sl ⟨h3.1, 0, 4, 4, true⟩]).bind fun h14 =>
       some ⟨1, [.sc (.sl ⟨h14.1, 0, 4, 4, true⟩)], h14.2⟩)
      (cond (a1 == 3)
       ((newB h4.2 1 [.int .i64 0, .int .i64 0, .int .i64 1, .int .i64 0]).bind fun h10 =>
        (newB h10.2 1 [.sl ⟨h2.1, 0, 4, 4, true⟩, .sl ⟨h1.1, 0, 4, 4, true⟩, .sl ⟨h1.1, 0, 4, 4, true⟩, .sl ⟨h10.1, 0, 4, 4, true⟩]).bind fun h15 =>
        some ⟨1, [.sc (.sl ⟨h15.1, 0, 4, 4, true⟩)], h15.2⟩)
       (cond (a1 == 4)
        ((newB h4.2 1 [.int .i64 0, .int .i64 1, .int .i64 0, .int .i64 0]).bind fun h11 =>
         (newB h11.2 1 [.sl ⟨h2.1, 0, 4, 4, true⟩, .sl ⟨h1.1, 0, 4, 4, true⟩, .sl ⟨h1.1, 0, 4, 4, true⟩, .sl ⟨h11.1, 0, 4, 4, true⟩]).bind fun h16 =>
         some ⟨1, [.sc (.sl ⟨h16.1, 0, 4, 4, true⟩)], h16.2⟩)
        (cond (a1 == 6)
         ((newB h4.2 1 [.int .i64 0, .int .i64 0, .int .i64 (IntKind.wrap .i64 (a0 - 1)), .int .i64 0]).bind fun h12 =>
          (newB h12.2 1 [.sl ⟨h2.1, 0, 4, 4, true⟩, .sl ⟨h1.1, 0, 4, 4, true⟩, .sl ⟨h1.1, 0, 4, 4, true⟩, .sl ⟨h12.1, 0, 4, 4, true⟩]).bind fun h17 =>
          some ⟨1, [.sc (.sl ⟨h17.1, 0, 4, 4, true⟩)], h17.2⟩)
         (cond (a1 == 7)
          ((newB h4.2 1 [.int .i64 0, .int .i64 0, .int .i64 0, .int .i64 (IntKind.wrap .i64 (a0 - 1))]).bind fun h13 =>
           (newB h13.2 1 [.sl ⟨h2.1, 0, 4, 4, true⟩, .sl ⟨h1.1, 0, 4, 4, true⟩, .sl ⟨h1.1, 0, 4, 4, true⟩, .sl ⟨h13.1, 0, 4, 4, true⟩]).bind fun h18 =>
           some ⟨1, [.sc (.sl ⟨h18.1, 0, 4, 4, true⟩)], h18.2⟩)
          ((newB h4.2 1 [.sl ⟨h2.1, 0, 4, 4, true⟩, .sl ⟨h1.1, 0, 4, 4, true⟩, .sl ⟨h1.1, 0, 4, 4, true⟩, .sl ⟨h2.1, 0, 4, 4, true⟩]).bind fun h19 =>
           some ⟨1, [.sc (.sl ⟨h19.1, 0, 4, 4, true⟩)], h19.2⟩))))))))) := by kernel_rfl
/- loop.example/g03211/laws.toGate -/
theorem e_wtoGate (C : Oracle) (a0_0 a0_1 a0_2 : Int) (H : AH) : (procM P T C (.fn F.wtoGate) [.agg [.int .i64 a0_0, .int .i64 a0_1, .int .i64 a0_2]] H).run =
  some ⟨1, [.agg [.int .i64 a0_0, .int .i64 a0_1, .int .i64 a0_2]], H⟩ := by kernel_rfl
/- loop.example/g03211/laws.eqGate -/
theorem e_weqGate (C : Oracle) (a0_0 a0_1 a0_2 a1_0 a1_1 a1_2 : Int) (H : AH) : (procM P T C (.fn F.weqGate) [.agg [.int .i64 a0_0, .int .i64 a0_1, .int .i64 a0_2], .agg [.int .i64 a1_0, .int .i64 a1_1, .int .i64 a1_2]] H).run =
  cond (a0_0 != a1_0)
  (some ⟨1, [.sc (.bool false)], H⟩)
  (cond (a0_1 != a1_1)
   (some ⟨1, [.sc (.bool false)], H⟩)
   (cond (a0_2 != a1_2)
    (some ⟨1, [.sc (.bool false)], H⟩)
    (some ⟨1, [.sc (.bool true)], H⟩))) := by kernel_rfl
/- loop.example/g03211/spec.l05Axes -/
theorem e_sl05Axes_0 (C : Oracle) (x0 x1 x17 : Sl) (x18 x19 : Int) (H : AH) : (procM P T C (.loop F.sl05Axes 0) [.sc (.sl x0), .sc (.sl x1), .sc (.sl x17), .sc (.int .i64 x18), .sc (.int .i64 x19)] H).run =
  cond (decide (x19 < x18))
  ((ixA x17 x19 1).bind fun o1 =>
   (rdB H x17.b).bind fun c2 =>
   (intAt .i64 c2 o1).bind fun n3 =>
   (C (.fn F.sl01In) [.sc (.int .i64 n3), .sc (.int .i64 0), .sc (.int .i64 99)] H).bind fun r4 =>
   (oneP r4.vs).bind fun p5 =>
   p5.sc?.bind fun c6 =>
   (boolAt [c6] 0).bind fun b7 =>
   cond (!b7)
   (some ⟨1, [.sc (.bool false)], r4.H⟩)
   ((ixA x1 x19 1).bind fun o8 =>
    (rdB r4.H x1.b).bind fun c9 =>
    (intAt .i64 c9 o8).bind fun n10 =>
    (C (.fn F.sl01In) [.sc (.int .i64 n10), .sc (.int .i64 1), .sc (.int .i64 8)] r4.H).bind fun r11 =>
    (oneP r11.vs).bind fun p12 =>
    p12.sc?.bind fun c13 =>
    (boolAt [c13] 0).bind fun b14 =>
    cond (!b14)
    (some ⟨1, [.sc (.bool false)], r11.H⟩)
    ((slB x0 none (some x19) none 1).bind fun s15 =>
     (C (.fn F.sl05Find) [.sc (.sl s15), .sc (.int .i64 n3)] r11.H).bind fun r16 =>
     (oneP r16.vs).bind fun p17 =>
     p17.sc?.bind fun c18 =>
     (intAt .i64 [c18] 0).bind fun n19 =>
     cond (decide (n19 ≥ 0))
     (some ⟨1, [.sc (.bool false)], r16.H⟩)
     (C (.loop F.sl05Axes 0) [.sc (.sl x0), .sc (.sl x1), .sc (.sl x17), .sc (.int .i64 x18), .sc (.int .i64 (IntKind.wrap .i64 (x19 + 1)))] r16.H))))
  (some ⟨2, [], H⟩) := by kernel_rfl
theorem e_sl05Axes (C : Oracle) (a0 a1 : Sl) (H : AH) : (procM P T C (.fn F.sl05Axes) [.sc (.sl a0), .sc (.sl a1)] H).run =
  cond (decide ((a0.n : Int) > 12))
  (some ⟨1, [.sc (.bool false)], H⟩)
  (cond ((a0.n : Int) != (a1.n : Int))
   (some ⟨1, [.sc (.bool false)], H⟩)
   ((C (.loop F.sl05Axes 0) [.sc (.sl a0), .sc (.sl a1), .sc (.sl a0), .sc (.int .i64 (a0.n : Int)), .sc (.int .i64 0)] H).bind fun r20 =>
    cond (Nat.beq r20.e 1)
    ((nthP r20.vs 0).bind fun p21 =>
     p21.sc?.bind fun c22 =>
     (boolAt [c22] 0).bind fun b23 =>
     some ⟨1, [.sc (.bool b23)], r20.H⟩)
    (cond (Nat.beq r20.e 2)
     (some ⟨1, [.sc (.bool true)], r20.H⟩)
     (none)))) := by kernel_rfl
/- loop.example/g03211/impl.inRing -/
theorem e_iinRing_0 (C : Oracle) (x5 : Int) (x10 : Sl) (x11 x12 : Int) (H : AH) : (procM P T C (.loop F.iinRing 0) [.sc (.int .i64 x5), .sc (.sl x10), .sc (.int .i64 x11), .sc (.int .i64 x12)] H).run =
  cond (decide (x12 < x11))
  ((ixA x10 x12 1).bind fun o5 =>
   (rdB H x10.b).bind fun c6 =>
   (intAt .i64 c6 o5).bind fun n7 =>
   cond (decide (n7 < 0))
   (some ⟨1, [.sc (.bool false)], H⟩)
   (cond (decide (n7 > x5))
    (some ⟨1, [.sc (.bool false)], H⟩)
    (C (.loop F.iinRing 0) [.sc (.int .i64 x5), .sc (.sl x10), .sc (.int .i64 x11), .sc (.int .i64 (IntKind.wrap .i64 (x12 + 1)))] H)))
  (some ⟨2, [], H⟩) := by kernel_rfl
theorem e_iinRing (C : Oracle) (a0_0 a0_1 a0_2 : Int) (a1 : Sl) (H : AH) : (procM P T C (.fn F.iinRing) [.agg [.int .i64 a0_0, .int .i64 a0_1, .int .i64 a0_2], .sc (.sl a1)] H).run =
  (C (.fn F.irawTop) [.agg [.int .i64 a0_0, .int .i64 a0_1, .int .i64 a0_2]] H).bind fun r1 =>
  (oneP r1.vs).bind fun p2 =>
  p2.sc?.bind fun c3 =>
  (intAt .i64 [c3] 0).bind fun n4 =>
  (C (.loop F.iinRing 0) [.sc (.int .i64 n4), .sc (.sl a1), .sc (.int .i64 (a1.n : Int)), .sc (.int .i64 0)] r1.H).bind fun r8 =>
  cond (Nat.beq r8.e 1)
  ((nthP r8.vs 0).bind fun p9 =>
   p9.sc?.bind fun c10 =>
   (boolAt [c10] 0).bind fun b11 =>
   some ⟨1, [.sc (.bool b11)], r8.H⟩)
  (cond (Nat.beq r8.e 2)
   (some ⟨1, [.sc (.bool true)], r8.H⟩)
   (none)) := by kernel_rfl
end Go.Abs
