/- Part of the proof of FnExactSessionOk: that for every input the law answers true and leaves what it reads as it was. Conditions: none beyond the given statement. -/
import Derived.Test.YtabkpkhjpfjpeaaLabTab
import Derived.KernelRfl
set_option linter.all false
/- The equations of the functions: what the abstract interpreter makes of their code. -/
namespace Go.Abs
set_option maxRecDepth 100000
set_option linter.unusedVariables false
/- loop.example/g03211/laws.markTensorS -/
theorem e_wmarkTensorS_0 (C : Oracle) (x0 : Sl) (x1 x5 : Int) (H : AH) : (procM P T C (.loop F.wmarkTensorS 0) [.sc (.sl x0), .sc (.int .i64 x1), .sc (.int .i64 x5)] H).run =
  cond (decide (x5 < (x0.n : Int)))
  ((ixA x0 x5 3).bind fun o1 =>
   (rdB H x0.b).bind fun c2 =>
   (slAt c2 (o1 + 0)).bind fun s3 =>
   (C (.fn F.wmarkIntS) [.sc (.sl s3), .sc (.int .i64 x1)] H).bind fun r4 =>
   (oneP r4.vs).bind fun p5 =>
   p5.sc?.bind fun c6 =>
   (intAt .i64 [c6] 0).bind fun n7 =>
   (ixA x0 x5 3).bind fun o8 =>
   (rdB r4.H x0.b).bind fun c9 =>
   (slAt c9 (o8 + 1)).bind fun s10 =>
   (C (.fn F.wmarkIntS) [.sc (.sl s10), .sc (.int .i64 n7)] r4.H).bind fun r11 =>
   (oneP r11.vs).bind fun p12 =>
   p12.sc?.bind fun c13 =>
   (intAt .i64 [c13] 0).bind fun n14 =>
   (ixA x0 x5 3).bind fun o15 =>
   (rdB r11.H x0.b).bind fun c16 =>
   (slAt c16 (o15 + 2)).bind fun s17 =>
   (C (.fn F.wmarkIntS) [.sc (.sl s17), .sc (.int .i64 n14)] r11.H).bind fun r18 =>
   (oneP r18.vs).bind fun p19 =>
   p19.sc?.bind fun c20 =>
   (intAt .i64 [c20] 0).bind fun n21 =>
   C (.loop F.wmarkTensorS 0) [.sc (.sl x0), .sc (.int .i64 n21), .sc (.int .i64 (IntKind.wrap .i64 (x5 + 1)))] r18.H)
  (some ⟨2, [.sc (.int .i64 x1)], H⟩) := by kernel_rfl
theorem e_wmarkTensorS (C : Oracle) (a0 : Sl) (a1 : Int) (H : AH) : (procM P T C (.fn F.wmarkTensorS) [.sc (.sl a0), .sc (.int .i64 a1)] H).run =
  (C (.loop F.wmarkTensorS 0) [.sc (.sl a0), .sc (.int .i64 a1), .sc (.int .i64 0)] H).bind fun r22 =>
  cond (Nat.beq r22.e 2)
  ((nthP r22.vs 0).bind fun p23 =>
   p23.sc?.bind fun c24 =>
   (intAt .i64 [c24] 0).bind fun n25 =>
   some ⟨1, [.sc (.int .i64 n25)], r22.H⟩)
  (none) := by kernel_rfl
/- loop.example/g03211/laws.heldTensorS -/
theorem e_wheldTensorS_0 (C : Oracle) (x0 : Sl) (x1 x5 : Int) (H : AH) : (procM P T C (.loop F.wheldTensorS 0) [.sc (.sl x0), .sc (.int .i64 x1), .sc (.int .i64 x5)] H).run =
  cond (decide (x5 < (x0.n : Int)))
  ((ixA x0 x5 3).bind fun o1 =>
   (rdB H x0.b).bind fun c2 =>
   (slAt c2 (o1 + 0)).bind fun s3 =>
   (C (.fn F.wheldIntS) [.sc (.sl s3), .sc (.int .i64 x1)] H).bind fun r4 =>
   (oneP r4.vs).bind fun p5 =>
   p5.sc?.bind fun c6 =>
   (intAt .i64 [c6] 0).bind fun n7 =>
   cond (decide (n7 < 0))
   (some ⟨1, [.sc (.int .i64 (-1))], r4.H⟩)
   ((ixA x0 x5 3).bind fun o8 =>
    (rdB r4.H x0.b).bind fun c9 =>
    (slAt c9 (o8 + 1)).bind fun s10 =>
    (C (.fn F.wheldIntS) [.sc (.sl s10), .sc (.int .i64 n7)] r4.H).bind fun r11 =>
    (oneP r11.vs).bind fun p12 =>
    p12.sc?.bind fun c13 =>
    (intAt .i64 [c13] 0).bind fun n14 =>
    cond (decide (n14 < 0))
    (some ⟨1, [.sc (.int .i64 (-1))], r11.H⟩)
    ((ixA x0 x5 3).bind fun o15 =>
     (rdB r11.H x0.b).bind fun c16 =>
     (slAt c16 (o15 + 2)).bind fun s17 =>
     (C (.fn F.wheldIntS) [.sc (.sl s17), .sc (.int .i64 n14)] r11.H).bind fun r18 =>
     (oneP r18.vs).bind fun p19 =>
     p19.sc?.bind fun c20 =>
     (intAt .i64 [c20] 0).bind fun n21 =>
     cond (decide (n21 < 0))
     (some ⟨1, [.sc (.int .i64 (-1))], r18.H⟩)
     (C (.loop F.wheldTensorS 0) [.sc (.sl x0), .sc (.int .i64 n21), .sc (.int .i64 (IntKind.wrap .i64 (x5 + 1)))] r18.H))))
  (some ⟨2, [.sc (.int .i64 x1)], H⟩) := by kernel_rfl
theorem e_wheldTensorS (C : Oracle) (a0 : Sl) (a1 : Int) (H : AH) : (procM P T C (.fn F.wheldTensorS) [.sc (.sl a0), .sc (.int .i64 a1)] H).run =
  (C (.loop F.wheldTensorS 0) [.sc (.sl a0), .sc (.int .i64 a1), .sc (.int .i64 0)] H).bind fun r22 =>
  cond (Nat.beq r22.e 1)
  ((nthP r22.vs 0).bind fun p23 =>
   p23.sc?.bind fun c24 =>
   (intAt .i64 [c24] 0).bind fun n25 =>
   some ⟨1, [.sc (.int .i64 n25)], r22.H⟩)
  (cond (Nat.beq r22.e 2)
   ((nthP r22.vs 0).bind fun p26 =>
    p26.sc?.bind fun c27 =>
    (intAt .i64 [c27] 0).bind fun n28 =>
    some ⟨1, [.sc (.int .i64 n28)], r22.H⟩)
   (none)) := by kernel_rfl
/- loop.example/g03211/laws.szNetwork -/
theorem e_wszNetwork (C : Oracle) (a0_0 a0_1 a0_2 : Int) (a0_3 a0_4 : Sl) (a1 : Int) (H : AH) : (procM P T C (.fn F.wszNetwork) [.agg [.int .i64 a0_0, .int .i64 a0_1, .int .i64 a0_2, .sl a0_3, .sl a0_4], .sc (.int .i64 a1)] H).run =
  (C (.fn F.wszTensorS) [.sc (.sl a0_3), .sc (.int .i64 a1)] H).bind fun r1 =>
  (oneP r1.vs).bind fun p2 =>
  p2.sc?.bind fun c3 =>
  (intAt .i64 [c3] 0).bind fun n4 =>
  cond (decide (n4 < 0))
  (some ⟨1, [.sc (.int .i64 (-1))], r1.H⟩)
  ((C (.fn F.wszIntS) [.sc (.sl a0_4), .sc (.int .i64 n4)] r1.H).bind fun r5 =>
   (oneP r5.vs).bind fun p6 =>
   p6.sc?.bind fun c7 =>
   (intAt .i64 [c7] 0).bind fun n8 =>
   cond (decide (n8 < 0))
   (some ⟨1, [.sc (.int .i64 (-1))], r5.H⟩)
   (some ⟨1, [.sc (.int .i64 n8)], r5.H⟩)) := by kernel_rfl
/- loop.example/g03211/laws.szStepS -/
theorem e_wszStepS (C : Oracle) (a0 : Sl) (a1 : Int) (H : AH) : (procM P T C (.fn F.wszStepS) [.sc (.sl a0), .sc (.int .i64 a1)] H).run =
  cond (decide ((IntKind.wrap .i64 (a1 - (a0.n : Int))) < 0))
  (some ⟨1, [.sc (.int .i64 (-1))], H⟩)
  (some ⟨1, [.sc (.int .i64 (IntKind.wrap .i64 (a1 - (a0.n : Int))))], H⟩) := by kernel_rfl
/- loop.example/g03211/laws.szJob -/
theorem e_wszJob (C : Oracle) (a0_0 a0_1 : Sl) (a0_2 : Int) (a0_3 a0_4 a0_5 : Sl) (a1 : Int) (H : AH) : (procM P T C (.fn F.wszJob) [.agg [.sl a0_0, .sl a0_1, .int .i64 a0_2, .sl a0_3, .sl a0_4, .sl a0_5], .sc (.int .i64 a1)] H).run =
  (C (.fn F.wszIntS) [.sc (.sl a0_0), .sc (.int .i64 a1)] H).bind fun r1 =>
  (oneP r1.vs).bind fun p2 =>
  p2.sc?.bind fun c3 =>
  (intAt .i64 [c3] 0).bind fun n4 =>
  cond (decide (n4 < 0))
  (some ⟨1, [.sc (.int .i64 (-1))], r1.H⟩)
  ((C (.fn F.wszStepS) [.sc (.sl a0_1), .sc (.int .i64 n4)] r1.H).bind fun r5 =>
   (oneP r5.vs).bind fun p6 =>
   p6.sc?.bind fun c7 =>
   (intAt .i64 [c7] 0).bind fun n8 =>
   cond (decide (n8 < 0))
   (some ⟨1, [.sc (.int .i64 (-1))], r5.H⟩)
   ((C (.fn F.wszTensor) [.agg [.sl a0_3, .sl a0_4, .sl a0_5], .sc (.int .i64 n8)] r5.H).bind fun r9 =>
    (oneP r9.vs).bind fun p10 =>
    p10.sc?.bind fun c11 =>
    (intAt .i64 [c11] 0).bind fun n12 =>
    cond (decide (n12 < 0))
    (some ⟨1, [.sc (.int .i64 (-1))], r9.H⟩)
    (some ⟨1, [.sc (.int .i64 n12)], r9.H⟩))) := by kernel_rfl
/- loop.example/g03211/spec.OrderOk -/
theorem e_sOrderOk_0 (C : Oracle) (x5 : Int) (x6 x28 : Sl) (x29 x30 : Int) (H : AH) : (procM P T C (.loop F.sOrderOk 0) [.sc (.int .i64 x5), .sc (.sl x6), .sc (.sl x28), .sc (.int .i64 x29), .sc (.int .i64 x30)] H).run =
  cond (decide (x30 < x29))
  ((ixA x28 x30 2).bind fun o6 =>
   (rdB H x28.b).bind fun c7 =>
   (intAt .i64 c7 o6).bind fun n8 =>
   (intAt .i64 c7 (o6 + 1)).bind fun n9 =>
   cond (decide (n8 < 0))
   (some ⟨1, [.sc (.bool false)], H⟩)
   (cond (decide (n8 ≥ n9))
    (some ⟨1, [.sc (.bool false)], H⟩)
    (cond (decide (n9 ≥ (IntKind.wrap .i64 (x5 + x30))))
     (some ⟨1, [.sc (.bool false)], H⟩)
     ((ixA x6 n8 1).bind fun o10 =>
      (rdB H x6.b).bind fun c11 =>
      (boolAt c11 o10).bind fun b12 =>
      cond b12
      (some ⟨1, [.sc (.bool false)], H⟩)
      ((ixA x6 n9 1).bind fun o13 =>
       (rdB H x6.b).bind fun c14 =>
       (boolAt c14 o13).bind fun b15 =>
       cond b15
       (some ⟨1, [.sc (.bool false)], H⟩)
       ((ixA x6 n8 1).bind fun o16 =>
        (putR H x6.b o16 [.bool true]).bind fun H17 =>
        (ixA x6 n9 1).bind fun o18 =>
        (putR H17 x6.b o18 [.bool true]).bind fun H19 =>
        C (.loop F.sOrderOk 0) [.sc (.int .i64 x5), .sc (.sl x6), .sc (.sl x28), .sc (.int .i64 x29), .sc (.int .i64 (IntKind.wrap .i64 (x30 + 1)))] H19))))))
  (some ⟨2, [], H⟩) := by kernel_rfl
theorem e_sOrderOk (C : Oracle) (a0_0 a0_1 a0_2 : Int) (a0_3 a0_4 a1 : Sl) (H : AH) : (procM P T C (.fn F.sOrderOk) [.agg [.int .i64 a0_0, .int .i64 a0_1, .int .i64 a0_2, .sl a0_3, .sl a0_4], .sc (.sl a1)] H).run =
  (C (.fn F.sNetworkOk) [.agg [.int .i64 a0_0, .int .i64 a0_1, .int .i64 a0_2, .sl a0_3, .sl a0_4]] H).bind fun r1 =>
  (oneP r1.vs).bind fun p2 =>
  p2.sc?.bind fun c3 =>
  (boolAt [c3] 0).bind fun b4 =>
  cond (!b4)
  (some ⟨1, [.sc (.bool false)], r1.H⟩)
  (cond ((a1.n : Int) != (if IntKind.wrap .i64 ((a0_3.n : Int) - 1) > 0 then IntKind.wrap .i64 ((a0_3.n : Int) - 1) else 0))
   (some ⟨1, [.sc (.bool false)], r1.H⟩)
   ((mkB r1.H 1 1 [.bool false] (IntKind.wrap .i64 ((a0_3.n : Int) + (a1.n : Int))) (IntKind.wrap .i64 ((a0_3.n : Int) + (a1.n : Int)))).bind fun m5 =>
    (C (.loop F.sOrderOk 0) [.sc (.int .i64 (a0_3.n : Int)), .sc (.sl m5.1), .sc (.sl a1), .sc (.int .i64 (a1.n : Int)), .sc (.int .i64 0)] m5.2).bind fun r20 =>
    cond (Nat.beq r20.e 1)
    ((nthP r20.vs 0).bind fun p21 =>
     p21.sc?.bind fun c22 =>
     (boolAt [c22] 0).bind fun b23 =>
     some ⟨1, [.sc (.bool b23)], r20.H⟩)
    (cond (Nat.beq r20.e 2)
     (some ⟨1, [.sc (.bool true)], r20.H⟩)
     (none)))) := by kernel_rfl
/- loop.example/g03211/spec.JobOk -/
theorem e_sJobOk (C : Oracle) (a0_0 a0_1 a0_2 : Int) (a0_3 a0_4 a1_0 a1_1 : Sl) (a1_2 : Int) (a1_3 a1_4 a1_5 : Sl) (H : AH) : (procM P T C (.fn F.sJobOk) [.agg [.int .i64 a0_0, .int .i64 a0_1, .int .i64 a0_2, .sl a0_3, .sl a0_4], .agg [.sl a1_0, .sl a1_1, .int .i64 a1_2, .sl a1_3, .sl a1_4, .sl a1_5]] H).run =
  (C (.fn F.sOrderOk) [.agg [.int .i64 a0_0, .int .i64 a0_1, .int .i64 a0_2, .sl a0_3, .sl a0_4], .sc (.sl a1_1)] H).bind fun r1 =>
  (oneP r1.vs).bind fun p2 =>
  p2.sc?.bind fun c3 =>
  (boolAt [c3] 0).bind fun b4 =>
  cond b4
  ((C (.fn F.sSliceCount) [.agg [.int .i64 a0_0, .int .i64 a0_1, .int .i64 a0_2, .sl a0_3, .sl a0_4], .sc (.sl a1_0)] r1.H).bind fun r5 =>
   (oneP r5.vs).bind fun p6 =>
   p6.sc?.bind fun c7 =>
   (intAt .i64 [c7] 0).bind fun n8 =>
   (C (.fn F.sl01In) [.sc (.int .i64 a1_2), .sc (.int .i64 0), .sc (.int .i64 n8)] r5.H).bind fun r9 =>
   (oneP r9.vs).bind fun p10 =>
   p10.sc?.bind fun c11 =>
   (boolAt [c11] 0).bind fun b12 =>
   cond b12
   ((C (.fn F.sTensorOk) [.agg [.int .i64 a0_0, .int .i64 a0_1, .int .i64 a0_2], .agg [.sl a1_3, .sl a1_4, .sl a1_5]] r9.H).bind fun r13 =>
    (oneP r13.vs).bind fun p14 =>
    p14.sc?.bind fun c15 =>
    (boolAt [c15] 0).bind fun b16 =>
    cond b16
    ((C (.fn F.sl06Equal) [.sc (.sl a1_3), .sc (.sl a0_4)] r13.H).bind fun r17 =>
     (oneP r17.vs).bind fun p18 =>
     p18.sc?.bind fun c19 =>
     (boolAt [c19] 0).bind fun b20 =>
     cond b20
     ((C (.fn F.sl12Dims) [.sc (.sl a0_3), .sc (.sl a0_4)] r17.H).bind fun r21 =>
      (oneP r21.vs).bind fun p22 =>
      p22.sc?.bind fun c23 =>
      (slAt [c23] 0).bind fun s24 =>
      (C (.fn F.sl06Equal) [.sc (.sl a1_4), .sc (.sl s24)] r21.H).bind fun r25 =>
      (oneP r25.vs).bind fun p26 =>
      p26.sc?.bind fun c27 =>
      (boolAt [c27] 0).bind fun b28 =>
      some ⟨1, [.sc (.bool b28)], r25.H⟩)
     (some ⟨1, [.sc (.bool false)], r17.H⟩))
    (some ⟨1, [.sc (.bool false)], r13.H⟩))
   (some ⟨1, [.sc (.bool false)], r9.H⟩))
  (some ⟨1, [.sc (.bool false)], r1.H⟩) := by kernel_rfl
/- loop.example/g03211/laws.toNetwork -/
theorem e_wtoNetwork (C : Oracle) (a0_0 a0_1 a0_2 : Int) (a0_3 a0_4 : Sl) (H : AH) : (procM P T C (.fn F.wtoNetwork) [.agg [.int .i64 a0_0, .int .i64 a0_1, .int .i64 a0_2, .sl a0_3, .sl a0_4]] H).run =
  (C (.fn F.wtoRing) [.agg [.int .i64 a0_0, .int .i64 a0_1, .int .i64 a0_2]] H).bind fun r1 =>
  (oneP r1.vs).bind fun p2 =>
  p2.agg?.bind fun l3 =>
  cond (decide (l3.length = 3))
  ((intAt .i64 l3 0).bind fun n4 =>
   (intAt .i64 l3 1).bind fun n5 =>
   (intAt .i64 l3 2).bind fun n6 =>
   (C (.fn F.wtoTensorS) [.sc (.sl a0_3)] r1.H).bind fun r7 =>
   (oneP r7.vs).bind fun p8 =>
   p8.sc?.bind fun c9 =>
   (slAt [c9] 0).bind fun s10 =>
   (C (.fn F.wtoIntS) [.sc (.sl a0_4)] r7.H).bind fun r11 =>
   (oneP r11.vs).bind fun p12 =>
   p12.sc?.bind fun c13 =>
   (slAt [c13] 0).bind fun s14 =>
   some ⟨1, [.agg [.int .i64 n4, .int .i64 n5, .int .i64 n6, .sl s10, .sl s14]], r11.H⟩)
  (none) := by kernel_rfl
/- loop.example/g03211/laws.toStepS -/
theorem e_wtoStepS_0 (C : Oracle) (x0 x3 : Sl) (x4 : Int) (H : AH) : (procM P T C (.loop F.wtoStepS 0) [.sc (.sl x0), .sc (.sl x3), .sc (.int .i64 x4)] H).run =
  cond (decide (x4 < (x0.n : Int)))
  ((ixA x0 x4 2).bind fun o2 =>
   (rdB H x0.b).bind fun c3 =>
   (intAt .i64 c3 o2).bind fun n4 =>
   (intAt .i64 c3 (o2 + 1)).bind fun n5 =>
   (C (.fn F.wtoStep) [.agg [.int .i64 n4, .int .i64 n5]] H).bind fun r6 =>
   (oneP r6.vs).bind fun p7 =>
   p7.agg?.bind fun l8 =>
   cond (decide (l8.length = 2))
   ((intAt .i64 l8 0).bind fun n9 =>
    (intAt .i64 l8 1).bind fun n10 =>
    (ixA x3 x4 2).bind fun o11 =>
    (putR r6.H x3.b o11 [.int .i64 n9, .int .i64 n10]).bind fun H12 =>
    C (.loop F.wtoStepS 0) [.sc (.sl x0), .sc (.sl x3), .sc (.int .i64 (IntKind.wrap .i64 (x4 + 1)))] H12)
   (none))
  (some ⟨2, [], H⟩) := by kernel_rfl
theorem e_wtoStepS (C : Oracle) (a0 : Sl) (H : AH) : (procM P T C (.fn F.wtoStepS) [.sc (.sl a0)] H).run =
  (mkB H 2 16 [.int .i64 0, .int .i64 0] (a0.n : Int) (a0.n : Int)).bind fun m1 =>
  (C (.loop F.wtoStepS 0) [.sc (.sl a0), .sc (.sl m1.1), .sc (.int .i64 0)] m1.2).bind fun r13 =>
  cond (Nat.beq r13.e 2)
  (some ⟨1, [.sc (.sl m1.1)], r13.H⟩)
  (none) := by kernel_rfl
/- loop.example/g03211/laws.toJob -/
theorem e_wtoJob (C : Oracle) (a0_0 a0_1 : Sl) (a0_2 : Int) (a0_3 a0_4 a0_5 : Sl) (H : AH) : (procM P T C (.fn F.wtoJob) [.agg [.sl a0_0, .sl a0_1, .int .i64 a0_2, .sl a0_3, .sl a0_4, .sl a0_5]] H).run =
  (C (.fn F.wtoIntS) [.sc (.sl a0_0)] H).bind fun r1 =>
  (oneP r1.vs).bind fun p2 =>
  p2.sc?.bind fun c3 =>
  (slAt [c3] 0).bind fun s4 =>
  (C (.fn F.wtoStepS) [.sc (.sl a0_1)] r1.H).bind fun r5 =>
  (oneP r5.vs).bind fun p6 =>
  p6.sc?.bind fun c7 =>
  (slAt [c7] 0).bind fun s8 =>
  (C (.fn F.wtoTensor) [.agg [.sl a0_3, .sl a0_4, .sl a0_5]] r5.H).bind fun r9 =>
  (oneP r9.vs).bind fun p10 =>
  p10.agg?.bind fun l11 =>
  cond (decide (l11.length = 3))
  ((slAt l11 0).bind fun s12 =>
   (slAt l11 1).bind fun s13 =>
   (slAt l11 2).bind fun s14 =>
   some ⟨1, [.agg [.sl s4, .sl s8, .int .i64 a0_2, .sl s12, .sl s13, .sl s14]], r9.H⟩)
  (none) := by kernel_rfl
/- loop.example/g03211/impl.OrderOk -/
theorem e_iOrderOk_0 (C : Oracle) (x5b x5o : Nat) (x23 : Sl) (x24 x25 : Int) (H : AH) : (procM P T C (.loop F.iOrderOk 0) [.sc (.hp x5b x5o), .sc (.sl x23), .sc (.int .i64 x24), .sc (.int .i64 x25)] H).run =
  cond (decide (x25 < x24))
  ((ixA x23 x25 2).bind fun o9 =>
   (rdB H x23.b).bind fun c10 =>
   (intAt .i64 c10 o9).bind fun n11 =>
   (intAt .i64 c10 (o9 + 1)).bind fun n12 =>
   (C (.fn F.x__impl_orderState__follow) [.sc (.hp x5b x5o), .agg [.int .i64 n11, .int .i64 n12]] H).bind fun r13 =>
   (oneP r13.vs).bind fun p14 =>
   p14.sc?.bind fun c15 =>
   (boolAt [c15] 0).bind fun b16 =>
   cond (!b16)
   (some ⟨1, [.sc (.bool false)], r13.H⟩)
   (C (.loop F.iOrderOk 0) [.sc (.hp x5b x5o), .sc (.sl x23), .sc (.int .i64 x24), .sc (.int .i64 (IntKind.wrap .i64 (x25 + 1)))] r13.H))
  (some ⟨2, [], H⟩) := by kernel_rfl
theorem e_iOrderOk (C : Oracle) (a0_0 a0_1 a0_2 : Int) (a0_3 a0_4 a1 : Sl) (H : AH) : (procM P T C (.fn F.iOrderOk) [.agg [.int .i64 a0_0, .int .i64 a0_1, .int .i64 a0_2, .sl a0_3, .sl a0_4], .sc (.sl a1)] H).run =
  (C (.fn F.iNetworkOk) [.agg [.int .i64 a0_0, .int .i64 a0_1, .int .i64 a0_2, .sl a0_3, .sl a0_4]] H).bind fun r1 =>
  (oneP r1.vs).bind fun p2 =>
  p2.sc?.bind fun c3 =>
  (boolAt [c3] 0).bind fun b4 =>
  cond (!b4)
  (some ⟨1, [.sc (.bool false)], r1.H⟩)
  (cond ((a1.n : Int) != (if 0 > IntKind.wrap .i64 ((a0_3.n : Int) - 1) then 0 else IntKind.wrap .i64 ((a0_3.n : Int) - 1)))
   (some ⟨1, [.sc (.bool false)], r1.H⟩)
   ((C (.fn F.istartState) [.agg [.int .i64 a0_0, .int .i64 a0_1, .int .i64 a0_2, .sl a0_3, .sl a0_4]] r1.H).bind fun r5 =>
    (oneP r5.vs).bind fun p6 =>
    p6.sc?.bind fun c7 =>
    (ptrAt [c7] 0).bind fun p8 =>
    (C (.loop F.iOrderOk 0) [.sc (.hp p8.1 p8.2), .sc (.sl a1), .sc (.int .i64 (a1.n : Int)), .sc (.int .i64 0)] r5.H).bind fun r17 =>
    cond (Nat.beq r17.e 1)
    ((nthP r17.vs 0).bind fun p18 =>
     p18.sc?.bind fun c19 =>
     (boolAt [c19] 0).bind fun b20 =>
     some ⟨1, [.sc (.bool b20)], r17.H⟩)
    (cond (Nat.beq r17.e 2)
     (some ⟨1, [.sc (.bool true)], r17.H⟩)
     (none)))) := by kernel_rfl
/- loop.example/g03211/impl.JobOk -/
theorem e_iJobOk (C : Oracle) (a0_0 a0_1 a0_2 : Int) (a0_3 a0_4 a1_0 a1_1 : Sl) (a1_2 : Int) (a1_3 a1_4 a1_5 : Sl) (H : AH) : (procM P T C (.fn F.iJobOk) [.agg [.int .i64 a0_0, .int .i64 a0_1, .int .i64 a0_2, .sl a0_3, .sl a0_4], .agg [.sl a1_0, .sl a1_1, .int .i64 a1_2, .sl a1_3, .sl a1_4, .sl a1_5]] H).run =
  (C (.fn F.iSliceCount) [.agg [.int .i64 a0_0, .int .i64 a0_1, .int .i64 a0_2, .sl a0_3, .sl a0_4], .sc (.sl a1_0)] H).bind fun r1 =>
  (oneP r1.vs).bind fun p2 =>
  p2.sc?.bind fun c3 =>
  (intAt .i64 [c3] 0).bind fun n4 =>
  cond (n4 == (-1))
  (some ⟨1, [.sc (.bool false)], r1.H⟩)
  ((C (.fn F.iOrderOk) [.agg [.int .i64 a0_0, .int .i64 a0_1, .int .i64 a0_2, .sl a0_3, .sl a0_4], .sc (.sl a1_1)] r1.H).bind fun r5 =>
   (oneP r5.vs).bind fun p6 =>
   p6.sc?.bind fun c7 =>
   (boolAt [c7] 0).bind fun b8 =>
   cond (!b8)
   (some ⟨1, [.sc (.bool false)], r5.H⟩)
   (cond (decide (a1_2 < 0))
    (some ⟨1, [.sc (.bool false)], r5.H⟩)
    (cond (decide (a1_2 > n4))
     (some ⟨1, [.sc (.bool false)], r5.H⟩)
     ((C (.fn F.iopenAxes) [.agg [.int .i64 a0_0, .int .i64 a0_1, .int .i64 a0_2, .sl a0_3, .sl a0_4]] r5.H).bind fun r9 =>
      (oneP r9.vs).bind fun p10 =>
      p10.agg?.bind fun l11 =>
      cond (decide (l11.length = 3))
      ((slAt l11 0).bind fun s12 =>
       (slAt l11 1).bind fun s13 =>
       (slAt l11 2).bind fun s14 =>
       (C (.fn F.iTensorOk) [.agg [.int .i64 a0_0, .int .i64 a0_1, .int .i64 a0_2], .agg [.sl a1_3, .sl a1_4, .sl a1_5]] r9.H).bind fun r15 =>
       (oneP r15.vs).bind fun p16 =>
       p16.sc?.bind fun c17 =>
       (boolAt [c17] 0).bind fun b18 =>
       cond b18
       ((C (.fn F.iequalInts) [.sc (.sl a1_3), .sc (.sl s12)] r15.H).bind fun r19 =>
        (oneP r19.vs).bind fun p20 =>
        p20.sc?.bind fun c21 =>
        (boolAt [c21] 0).bind fun b22 =>
        cond b22
        ((C (.fn F.iequalInts) [.sc (.sl a1_4), .sc (.sl s13)] r19.H).bind fun r23 =>
         (oneP r23.vs).bind fun p24 =>
         p24.sc?.bind fun c25 =>
         (boolAt [c25] 0).bind fun b26 =>
         some ⟨1, [.sc (.bool b26)], r23.H⟩)
        (some ⟨1, [.sc (.bool false)], r19.H⟩))
       (some ⟨1, [.sc (.bool false)], r15.H⟩))
      (none))))) := by kernel_rfl
/- loop.example/g03211/laws.eqStepS -/
theorem e_weqStepS_0 (C : Oracle) (x0 x1 : Sl) (x5 : Int) (H : AH) : (procM P T C (.loop F.weqStepS 0) [.sc (.sl x0), .sc (.sl x1), .sc (.int .i64 x5)] H).run =
  cond (decide (x5 < (x0.n : Int)))
  ((ixA x0 x5 2).bind fun o1 =>
   (rdB H x0.b).bind fun c2 =>
   (intAt .i64 c2 o1).bind fun n3 =>
   (intAt .i64 c2 (o1 + 1)).bind fun n4 =>
   (ixA x1 x5 2).bind fun o5 =>
   (rdB H x1.b).bind fun c6 =>
   (intAt .i64 c6 o5).bind fun n7 =>
   (intAt .i64 c6 (o5 + 1)).bind fun n8 =>
   (C (.fn F.weqStep) [.agg [.int .i64 n3, .int .i64 n4], .agg [.int .i64 n7, .int .i64 n8]] H).bind fun r9 =>
   (oneP r9.vs).bind fun p10 =>
   p10.sc?.bind fun c11 =>
   (boolAt [c11] 0).bind fun b12 =>
   cond (!b12)
   (some ⟨1, [.sc (.bool false)], r9.H⟩)
   (C (.loop F.weqStepS 0) [.sc (.sl x0), .sc (.sl x1), .sc (.int .i64 (IntKind.wrap .i64 (x5 + 1)))] r9.H))
  (some ⟨2, [], H⟩) := by kernel_rfl
theorem e_weqStepS (C : Oracle) (a0 a1 : Sl) (H : AH) : (procM P T C (.fn F.weqStepS) [.sc (.sl a0), .sc (.sl a1)] H).run =
  cond ((a0.n : Int) != (a1.n : Int))
  (some ⟨1, [.sc (.bool false)], H⟩)
  ((C (.loop F.weqStepS 0) [.sc (.sl a0), .sc (.sl a1), .sc (.int .i64 0)] H).bind fun r13 =>
   cond (Nat.beq r13.e 1)
   ((nthP r13.vs 0).bind fun p14 =>
    p14.sc?.bind fun c15 =>
    (boolAt [c15] 0).bind fun b16 =>
    some ⟨1, [.sc (.bool b16)], r13.H⟩)
   (cond (Nat.beq r13.e 2)
    (some ⟨1, [.sc (.bool true)], r13.H⟩)
    (none))) := by kernel_rfl
/- loop.example/g03211/laws.eqJob -/
theorem e_weqJob (C : Oracle) (a0_0 a0_1 : Sl) (a0_2 : Int) (a0_3 a0_4 a0_5 a1_0 a1_1 : Sl) (a1_2 : Int) (a1_3 a1_4 a1_5 : Sl) (H : AH) : (procM P T C (.fn F.weqJob) [.agg [.sl a0_0, .sl a0_1, .int .i64 a0_2, .sl a0_3, .sl a0_4, .sl a0_5], .agg [.sl a1_0, .sl a1_1, .int .i64 a1_2, .sl a1_3, .sl a1_4, .sl a1_5]] H).run =
  (C (.fn F.weqIntS) [.sc (.sl a0_0), .sc (.sl a1_0)] H).bind fun r1 =>
  (oneP r1.vs).bind fun p2 =>
  p2.sc?.bind fun c3 =>
  (boolAt [c3] 0).bind fun b4 =>
  cond (!b4)
  (some ⟨1, [.sc (.bool false)], r1.H⟩)
  ((C (.fn F.weqStepS) [.sc (.sl a0_1), .sc (.sl a1_1)] r1.H).bind fun r5 =>
   (oneP r5.vs).bind fun p6 =>
   p6.sc?.bind fun c7 =>
   (boolAt [c7] 0).bind fun b8 =>
   cond (!b8)
   (some ⟨1, [.sc (.bool false)], r5.H⟩)
   (cond (a0_2 != a1_2)
    (some ⟨1, [.sc (.bool false)], r5.H⟩)
    ((C (.fn F.weqTensor) [.agg [.sl a0_3, .sl a0_4, .sl a0_5], .agg [.sl a1_3, .sl a1_4, .sl a1_5]] r5.H).bind fun r9 =>
     (oneP r9.vs).bind fun p10 =>
     p10.sc?.bind fun c11 =>
     (boolAt [c11] 0).bind fun b12 =>
     cond (!b12)
     (some ⟨1, [.sc (.bool false)], r9.H⟩)
     (some ⟨1, [.sc (.bool true)], r9.H⟩)))) := by kernel_rfl
/- loop.example/g03211/laws.szGateS -/
theorem e_wszGateS (C : Oracle) (a0 : Sl) (a1 : Int) (H : AH) : (procM P T C (.fn F.wszGateS) [.sc (.sl a0), .sc (.int .i64 a1)] H).run =
  cond (decide ((IntKind.wrap .i64 (a1 - (a0.n : Int))) < 0))
  (some ⟨1, [.sc (.int .i64 (-1))], H⟩)
  (some ⟨1, [.sc (.int .i64 (IntKind.wrap .i64 (a1 - (a0.n : Int))))], H⟩) := by kernel_rfl
/- loop.example/g03211/spec.CircuitOk -/
theorem e_sCircuitOk_0 (C : Oracle) (x27 : Sl) (x28 x29 y1_0 y1_1 : Int) (y1_2 : Sl) (H : AH) : (procM P T C (.loop F.sCircuitOk 0) [.sc (.sl x27), .sc (.int .i64 x28), .sc (.int .i64 x29), .agg [.int .i64 y1_0, .int .i64 y1_1, .sl y1_2]] H).run =
  cond (decide (x29 < x28))
  ((ixA x27 x29 3).bind fun o9 =>
   (rdB H x27.b).bind fun c10 =>
   (intAt .i64 c10 o9).bind fun n11 =>
   (intAt .i64 c10 (o9 + 1)).bind fun n12 =>
   (intAt .i64 c10 (o9 + 1 + 1)).bind fun n13 =>
   (C (.fn F.sl01In) [.sc (.int .i64 n11), .sc (.int .i64 1), .sc (.int .i64 9)] H).bind fun r14 =>
   (oneP r14.vs).bind fun p15 =>
   p15.sc?.bind fun c16 =>
   (boolAt [c16] 0).bind fun b17 =>
   cond (!b17)
   (some ⟨1, [.sc (.bool false)], r14.H⟩)
   ((C (.fn F.sl01In) [.sc (.int .i64 n12), .sc (.int .i64 0), .sc (.int .i64 (IntKind.wrap .i64 (y1_1 - 1)))] r14.H).bind fun r18 =>
    (oneP r18.vs).bind fun p19 =>
    p19.sc?.bind fun c20 =>
    (boolAt [c20] 0).bind fun b21 =>
    cond (!b21)
    (some ⟨1, [.sc (.bool false)], r18.H⟩)
    (cond (decide (n11 < 8))
     (cond (n13 != 0)
      (some ⟨1, [.sc (.bool false)], r18.H⟩)
      (cond (decide (n11 ≥ 8))
       ((C (.fn F.sl01In) [.sc (.int .i64 n13), .sc (.int .i64 0), .sc (.int .i64 (IntKind.wrap .i64 (y1_1 - 1)))] r18.H).bind fun r22 =>
        (oneP r22.vs).bind fun p23 =>
        p23.sc?.bind fun c24 =>
        (boolAt [c24] 0).bind fun b25 =>
        cond (!b25)
        (some ⟨1, [.sc (.bool false)], r22.H⟩)
        (cond (n12 == n13)
         (some ⟨1, [.sc (.bool false)], r22.H⟩)
         (C (.loop F.sCircuitOk 0) [.sc (.sl x27), .sc (.int .i64 x28), .sc (.int .i64 (IntKind.wrap .i64 (x29 + 1))), .agg [.int .i64 y1_0, .int .i64 y1_1, .sl y1_2]] r22.H)))
       (C (.loop F.sCircuitOk 0) [.sc (.sl x27), .sc (.int .i64 x28), .sc (.int .i64 (IntKind.wrap .i64 (x29 + 1))), .agg [.int .i64 y1_0, .int .i64 y1_1, .sl y1_2]] r18.H)))
     (cond (decide (n11 ≥ 8))
      ((C (.fn F.sl01In) [.sc (.int .i64 n13), .sc (.int .i64 0), .sc (.int .i64 (IntKind.wrap .i64 (y1_1 - 1)))] r18.H).bind fun r26 =>
       (oneP r26.vs).bind fun p27 =>
       p27.sc?.bind fun c28 =>
       (boolAt [c28] 0).bind fun b29 =>
       cond (!b29)
       (some ⟨1, [.sc (.bool false)], r26.H⟩)
       (cond (n12 == n13)
        (some ⟨1, [.sc (.bool false)], r26.H⟩)
        (C (.loop F.sCircuitOk 0) [.sc (.sl x27), .sc (.int .i64 x28), .sc (.int .i64 (IntKind.wrap .i64 (x29 + 1))), .agg [.int .i64 y1_0, .int .i64 y1_1, .sl y1_2]] r26.H)))
      (C (.loop F.sCircuitOk 0) [.sc (.sl x27), .sc (.int .i64 x28), .sc (.int .i64 (IntKind.wrap .i64 (x29 + 1))), .agg [.int .i64 y1_0, .int .i64 y1_1, .sl y1_2]] r18.H)))))
  (some ⟨2, [], H⟩) := by kernel_rfl
theorem e_sCircuitOk (C : Oracle) (a0_0 a0_1 : Int) (a0_2 : Sl) (H : AH) : (procM P T C (.fn F.sCircuitOk) [.agg [.int .i64 a0_0, .int .i64 a0_1, .sl a0_2]] H).run =
  (C (.fn F.sIsPrime) [.sc (.int .i64 a0_0)] H).bind fun r1 =>
  (oneP r1.vs).bind fun p2 =>
  p2.sc?.bind fun c3 =>
  (boolAt [c3] 0).bind fun b4 =>
  cond (!b4)
  (some ⟨1, [.sc (.bool false)], r1.H⟩)
  (cond (a0_0 == 2)
   (some ⟨1, [.sc (.bool false)], r1.H⟩)
   ((C (.fn F.sl01In) [.sc (.int .i64 a0_1), .sc (.int .i64 1), .sc (.int .i64 5)] r1.H).bind fun r5 =>
    (oneP r5.vs).bind fun p6 =>
    p6.sc?.bind fun c7 =>
    (boolAt [c7] 0).bind fun b8 =>
    cond (!b8)
    (some ⟨1, [.sc (.bool false)], r5.H⟩)
    (cond (decide ((a0_2.n : Int) > 24))
     (some ⟨1, [.sc (.bool false)], r5.H⟩)
     ((C (.loop F.sCircuitOk 0) [.sc (.sl a0_2), .sc (.int .i64 (a0_2.n : Int)), .sc (.int .i64 0), .agg [.int .i64 a0_0, .int .i64 a0_1, .sl a0_2]] r5.H).bind fun r30 =>
      cond (Nat.beq r30.e 1)
      ((nthP r30.vs 0).bind fun p31 =>
       p31.sc?.bind fun c32 =>
       (boolAt [c32] 0).bind fun b33 =>
       some ⟨1, [.sc (.bool b33)], r30.H⟩)
      (cond (Nat.beq r30.e 2)
       (some ⟨1, [.sc (.bool true)], r30.H⟩)
       (none)))))) := by kernel_rfl
/- loop.example/g03211/spec.l01In -/
theorem e_sl01In (C : Oracle) (a0 a1 a2 : Int) (H : AH) : (procM P T C (.fn F.sl01In) [.sc (.int .i64 a0), .sc (.int .i64 a1), .sc (.int .i64 a2)] H).run =
  cond (decide (a0 ≥ a1))
  (some ⟨1, [.sc (.bool (decide (a0 ≤ a2)))], H⟩)
  (some ⟨1, [.sc (.bool false)], H⟩) := by kernel_rfl
/- loop.example/g03211/spec.l40Lines -/
theorem e_sl40Lines (C : Oracle) (a0_0 a0_1 a0_2 : Int) (H : AH) : (procM P T C (.fn F.sl40Lines) [.agg [.int .i64 a0_0, .int .i64 a0_1, .int .i64 a0_2]] H).run =
  cond (decide (a0_0 ≥ 8))
  ((newB H 1 [.int .i64 a0_1, .int .i64 a0_2]).bind fun h1 =>
   some ⟨1, [.sc (.sl ⟨h1.1, 0, 2, 2, true⟩)], h1.2⟩)
  ((newB H 1 [.int .i64 a0_1]).bind fun h2 =>
   some ⟨1, [.sc (.sl ⟨h2.1, 0, 1, 1, true⟩)], h2.2⟩) := by kernel_rfl
/- loop.example/g03211/spec.l40Gate -/
theorem e_sl40Gate_0 (C : Oracle) (x14 x15 : Int) (y7_0 y7_1 y7_2 : Sl) (H : AH) : (procM P T C (.loop F.sl40Gate 0) [.sc (.int .i64 x14), .sc (.int .i64 x15), .agg [.sl y7_0, .sl y7_1, .sl y7_2]] H).run =
  cond (decide (x15 < x14))
  ((newB H 1 [.int .i64 2]).bind fun h5 =>
   (rng h5.2 h5.1 0 (1 * 1)).bind fun l6 =>
   (appB h5.2 1 8 y7_1 l6 1).bind fun m7 =>
   C (.loop F.sl40Gate 0) [.sc (.int .i64 x14), .sc (.int .i64 (IntKind.wrap .i64 (x15 + 1))), .agg [.sl y7_0, .sl m7.1, .sl y7_2]] m7.2)
  (some ⟨2, [.agg [.sl y7_0, .sl y7_1, .sl y7_2]], H⟩) := by kernel_rfl
theorem e_sl40Gate_1 (C : Oracle) (x25 : Sl) (x26 x27 : Int) (y7_0 y7_1 y7_2 : Sl) (H : AH) : (procM P T C (.loop F.sl40Gate 1) [.sc (.sl x25), .sc (.int .i64 x26), .sc (.int .i64 x27), .agg [.sl y7_0, .sl y7_1, .sl y7_2]] H).run =
  cond (decide (x27 < x26))
  ((ixA x25 x27 1).bind fun o17 =>
   (rdB H x25.b).bind fun c18 =>
   (slAt c18 o17).bind fun s19 =>
   (rng H s19.b s19.o (s19.n * 1)).bind fun l20 =>
   (appB H 1 8 y7_2 l20 s19.n).bind fun m21 =>
   C (.loop F.sl40Gate 1) [.sc (.sl x25), .sc (.int .i64 x26), .sc (.int .i64 (IntKind.wrap .i64 (x27 + 1))), .agg [.sl y7_0, .sl y7_1, .sl m21.1]] m21.2)
  (some ⟨4, [.agg [.sl y7_0, .sl y7_1, .sl y7_2]], H⟩) := by kernel_rfl
theorem e_sl40Gate (C : Oracle) (a0 a1 : Int) (a2 : Sl) (H : AH) : (procM P T C (.fn F.sl40Gate) [.sc (.int .i64 a0), .sc (.int .i64 a1), .sc (.sl a2)] H).run =
  (C (.fn F.sl05Ints) [.sc (.sl a2)] H).bind fun r1 =>
  (oneP r1.vs).bind fun p2 =>
  p2.sc?.bind fun c3 =>
  (slAt [c3] 0).bind fun s4 =>
  (C (.loop F.sl40Gate 0) [.sc (.int .i64 (a2.n : Int)), .sc (.int .i64 0), .agg [.sl s4, .sl ⟨0, 0, 0, 0, true⟩, .sl ⟨0, 0, 0, 0, true⟩]] r1.H).bind fun r8 =>
  cond (Nat.beq r8.e 2)
  (((nthP r8.vs 0).bind PV.agg?).bind fun l9 =>
   cond (decide (l9.length = 3))
   ((slAt l9 0).bind fun s10 =>
    (slAt l9 1).bind fun s11 =>
    (slAt l9 2).bind fun s12 =>
    (C (.fn F.sl40Matrix) [.sc (.int .i64 a0), .sc (.int .i64 a1)] r8.H).bind fun r13 =>
    (oneP r13.vs).bind fun p14 =>
    p14.sc?.bind fun c15 =>
    (slAt [c15] 0).bind fun s16 =>
    (C (.loop F.sl40Gate 1) [.sc (.sl s16), .sc (.int .i64 (s16.n : Int)), .sc (.int .i64 0), .agg [.sl s10, .sl s11, .sl s12]] r13.H).bind fun r22 =>
    cond (Nat.beq r22.e 4)
    (((nthP r22.vs 0).bind PV.agg?).bind fun l23 =>
     cond (decide (l23.length = 3))
     ((slAt l23 0).bind fun s24 =>
      (slAt l23 1).bind fun s25 =>
      (slAt l23 2).bind fun s26 =>
      some ⟨1, [.agg [.sl s24, .sl s25, .sl s26]], r22.H⟩)
     (none))
    (none))
   (none))
  (none) := by kernel_rfl
/- loop.example/g03211/spec.l05Ints -/
theorem e_sl05Ints (C : Oracle) (a0 : Sl) (H : AH) : (procM P T C (.fn F.sl05Ints) [.sc (.sl a0)] H).run =
  (newB H 1 []).bind fun h1 =>
  (rng h1.2 a0.b a0.o (a0.n * 1)).bind fun l2 =>
  (appB h1.2 1 8 ⟨h1.1, 0, 0, 0, true⟩ l2 a0.n).bind fun m3 =>
  some ⟨1, [.sc (.sl m3.1)], m3.2⟩ := by kernel_rfl
/- loop.example/g03211/laws.toGateS -/
theorem e_wtoGateS_0 (C : Oracle) (x0 x3 : Sl) (x4 : Int) (H : AH) : (procM P T C (.loop F.wtoGateS 0) [.sc (.sl x0), .sc (.sl x3), .sc (.int .i64 x4)] H).run =
  cond (decide (x4 < (x0.n : Int)))
  ((ixA x0 x4 3).bind fun o2 =>
   (rdB H x0.b).bind fun c3 =>
   (intAt .i64 c3 o2).bind fun n4 =>
   (intAt .i64 c3 (o2 + 1)).bind fun n5 =>
   (intAt .i64 c3 (o2 + 1 + 1)).bind fun n6 =>
   (C (.fn F.wtoGate) [.agg [.int .i64 n4, .int .i64 n5, .int .i64 n6]] H).bind fun r7 =>
   (oneP r7.vs).bind fun p8 =>
   p8.agg?.bind fun l9 =>
   cond (decide (l9.length = 3))
   ((intAt .i64 l9 0).bind fun n10 =>
    (intAt .i64 l9 1).bind fun n11 =>
    (intAt .i64 l9 2).bind fun n12 =>
    (ixA x3 x4 3).bind fun o13 =>
    (putR r7.H x3.b o13 [.int .i64 n10, .int .i64 n11, .int .i64 n12]).bind fun H14 =>
    C (.loop F.wtoGateS 0) [.sc (.sl x0), .sc (.sl x3), .sc (.int .i64 (IntKind.wrap .i64 (x4 + 1)))] H14)
   (none))
  (some ⟨2, [], H⟩) := by kernel_rfl
theorem e_wtoGateS (C : Oracle) (a0 : Sl) (H : AH) : (procM P T C (.fn F.wtoGateS) [.sc (.sl a0)] H).run =
  (mkB H 3 24 [.int .i64 0, .int .i64 0, .int .i64 0] (a0.n : Int) (a0.n : Int)).bind fun m1 =>
  (C (.loop F.wtoGateS 0) [.sc (.sl a0), .sc (.sl m1.1), .sc (.int .i64 0)] m1.2).bind fun r15 =>
  cond (Nat.beq r15.e 2)
  (some ⟨1, [.sc (.sl m1.1)], r15.H⟩)
  (none) := by kernel_rfl
/- loop.example/g03211/impl.CircuitOk -/
theorem e_iCircuitOk_0 (C : Oracle) (x27 : Sl) (x28 x29 y1_0 y1_1 : Int) (y1_2 : Sl) (H : AH) : (procM P T C (.loop F.iCircuitOk 0) [.sc (.sl x27), .sc (.int .i64 x28), .sc (.int .i64 x29), .agg [.int .i64 y1_0, .int .i64 y1_1, .sl y1_2]] H).run =
  cond (decide (x29 < x28))
  ((ixA x27 x29 3).bind fun o11 =>
   (rdB H x27.b).bind fun c12 =>
   (intAt .i64 c12 o11).bind fun n13 =>
   (intAt .i64 c12 (o11 + 1)).bind fun n14 =>
   (intAt .i64 c12 (o11 + 1 + 1)).bind fun n15 =>
   cond (decide (n13 < 1))
   (some ⟨1, [.sc (.bool false)], H⟩)
   (cond (decide (n13 > 9))
    (some ⟨1, [.sc (.bool false)], H⟩)
    (cond (decide (n14 < 0))
     (some ⟨1, [.sc (.bool false)], H⟩)
     (cond (decide (n14 ≥ y1_1))
      (some ⟨1, [.sc (.bool false)], H⟩)
      (cond (decide (n13 < 8))
       (cond (n15 != 0)
        (some ⟨1, [.sc (.bool false)], H⟩)
        (C (.loop F.iCircuitOk 0) [.sc (.sl x27), .sc (.int .i64 x28), .sc (.int .i64 (IntKind.wrap .i64 (x29 + 1))), .agg [.int .i64 y1_0, .int .i64 y1_1, .sl y1_2]] H))
       (cond (decide (n15 < 0))
        (some ⟨1, [.sc (.bool false)], H⟩)
        (cond (decide (n15 ≥ y1_1))
         (some ⟨1, [.sc (.bool false)], H⟩)
         (cond (n15 == n14)
          (some ⟨1, [.sc (.bool false)], H⟩)
          (C (.loop F.iCircuitOk 0) [.sc (.sl x27), .sc (.int .i64 x28), .sc (.int .i64 (IntKind.wrap .i64 (x29 + 1))), .agg [.int .i64 y1_0, .int .i64 y1_1, .sl y1_2]] H)))))))))
  (some ⟨2, [], H⟩) := by kernel_rfl
theorem e_iCircuitOk (C : Oracle) (a0_0 a0_1 : Int) (a0_2 : Sl) (H : AH) : (procM P T C (.fn F.iCircuitOk) [.agg [.int .i64 a0_0, .int .i64 a0_1, .sl a0_2]] H).run =
  (C (.fn F.iomegaRing) [.sc (.int .i64 a0_0)] H).bind fun r1 =>
  (oneP r1.vs).bind fun p2 =>
  p2.agg?.bind fun l3 =>
  cond (decide (l3.length = 3))
  ((intAt .i64 l3 0).bind fun n4 =>
   (intAt .i64 l3 1).bind fun n5 =>
   (intAt .i64 l3 2).bind fun n6 =>
   (C (.fn F.iRingOk) [.agg [.int .i64 n4, .int .i64 n5, .int .i64 n6]] r1.H).bind fun r7 =>
   (oneP r7.vs).bind fun p8 =>
   p8.sc?.bind fun c9 =>
   (boolAt [c9] 0).bind fun b10 =>
   cond (!b10)
   (some ⟨1, [.sc (.bool false)], r7.H⟩)
   (cond (decide (a0_1 < 1))
    (some ⟨1, [.sc (.bool false)], r7.H⟩)
    (cond (decide (a0_1 > 5))
     (some ⟨1, [.sc (.bool false)], r7.H⟩)
     (cond (decide ((a0_2.n : Int) > 24))
      (some ⟨1, [.sc (.bool false)], r7.H⟩)
      ((C (.loop F.iCircuitOk 0) [.sc (.sl a0_2), .sc (.int .i64 (a0_2.n : Int)), .sc (.int .i64 0), .agg [.int .i64 a0_0, .int .i64 a0_1, .sl a0_2]] r7.H).bind fun r16 =>
       cond (Nat.beq r16.e 1)
       ((nthP r16.vs 0).bind fun p17 =>
        p17.sc?.bind fun c18 =>
        (boolAt [c18] 0).bind fun b19 =>
        some ⟨1, [.sc (.bool b19)], r16.H⟩)
       (cond (Nat.beq r16.e 2)
        (some ⟨1, [.sc (.bool true)], r16.H⟩)
        (none)))))))
  (none) := by kernel_rfl
/- loop.example/g03211/impl.firstLabels -/
theorem e_ifirstLabels_0 (C : Oracle) (x3 : Sl) (x8 x9 : Int) (H : AH) : (procM P T C (.loop F.ifirstLabels 0) [.sc (.sl x3), .sc (.int .i64 x8), .sc (.int .i64 x9)] H).run =
  cond (decide (x9 < x8))
  ((ixA x3 x9 1).bind fun o2 =>
   (putR H x3.b o2 [.int .i64 x9]).bind fun H3 =>
   C (.loop F.ifirstLabels 0) [.sc (.sl x3), .sc (.int .i64 x8), .sc (.int .i64 (IntKind.wrap .i64 (x9 + 1)))] H3)
  (some ⟨2, [], H⟩) := by kernel_rfl
theorem e_ifirstLabels (C : Oracle) (a0 : Int) (H : AH) : (procM P T C (.fn F.ifirstLabels) [.sc (.int .i64 a0)] H).run =
  (mkB H 1 8 [.int .i64 0] a0 a0).bind fun m1 =>
  (C (.loop F.ifirstLabels 0) [.sc (.sl m1.1), .sc (.int .i64 (m1.1.n : Int)), .sc (.int .i64 0)] m1.2).bind fun r4 =>
  cond (Nat.beq r4.e 2)
  (some ⟨1, [.sc (.sl m1.1)], r4.H⟩)
  (none) := by kernel_rfl
/- loop.example/g03211/impl.gateQubits -/
theorem e_igateQubits (C : Oracle) (a0_0 a0_1 a0_2 : Int) (H : AH) : (procM P T C (.fn F.igateQubits) [.agg [.int .i64 a0_0, .int .i64 a0_1, .int .i64 a0_2]] H).run =
  cond (decide (a0_0 ≥ 8))
  ((newB H 1 [.int .i64 a0_1, .int .i64 a0_2]).bind fun h1 =>
   some ⟨1, [.sc (.sl ⟨h1.1, 0, 2, 2, true⟩)], h1.2⟩)
  ((newB H 1 [.int .i64 a0_1]).bind fun h2 =>
   some ⟨1, [.sc (.sl ⟨h2.1, 0, 1, 1, true⟩)], h2.2⟩) := by kernel_rfl
/- loop.example/g03211/impl.twos -/
theorem e_itwos_0 (C : Oracle) (x3 : Sl) (x8 x9 : Int) (H : AH) : (procM P T C (.loop F.itwos 0) [.sc (.sl x3), .sc (.int .i64 x8), .sc (.int .i64 x9)] H).run =
  cond (decide (x9 < x8))
  ((ixA x3 x9 1).bind fun o2 =>
   (putR H x3.b o2 [.int .i64 2]).bind fun H3 =>
   C (.loop F.itwos 0) [.sc (.sl x3), .sc (.int .i64 x8), .sc (.int .i64 (IntKind.wrap .i64 (x9 + 1)))] H3)
  (some ⟨2, [], H⟩) := by kernel_rfl
theorem e_itwos (C : Oracle) (a0 : Int) (H : AH) : (procM P T C (.fn F.itwos) [.sc (.int .i64 a0)] H).run =
  (mkB H 1 8 [.int .i64 0] a0 a0).bind fun m1 =>
  (C (.loop F.itwos 0) [.sc (.sl m1.1), .sc (.int .i64 (m1.1.n : Int)), .sc (.int .i64 0)] m1.2).bind fun r4 =>
  cond (Nat.beq r4.e 2)
  (some ⟨1, [.sc (.sl m1.1)], r4.H⟩)
  (none) := by kernel_rfl
/- loop.example/g03211/laws.eqGateS -/
theorem e_weqGateS_0 (C : Oracle) (x0 x1 : Sl) (x5 : Int) (H : AH) : (procM P T C (.loop F.weqGateS 0) [.sc (.sl x0), .sc (.sl x1), .sc (.int .i64 x5)] H).run =
  cond (decide (x5 < (x0.n : Int)))
  ((ixA x0 x5 3).bind fun o1 =>
   (rdB H x0.b).bind fun c2 =>
   (intAt .i64 c2 o1).bind fun n3 =>
   (intAt .i64 c2 (o1 + 1)).bind fun n4 =>
   (intAt .i64 c2 (o1 + 1 + 1)).bind fun n5 =>
   (ixA x1 x5 3).bind fun o6 =>
   (rdB H x1.b).bind fun c7 =>
   (intAt .i64 c7 o6).bind fun n8 =>
   (intAt .i64 c7 (o6 + 1)).bind fun n9 =>
   (intAt .i64 c7 (o6 + 1 + 1)).bind fun n10 =>
   (C (.fn F.weqGate) [.agg [.int .i64 n3, .int .i64 n4, .int .i64 n5], .agg [.int .i64 n8, .int .i64 n9, .int .i64 n10]] H).bind fun r11 =>
   (oneP r11.vs).bind fun p12 =>
   p12.sc?.bind fun c13 =>
   (boolAt [c13] 0).bind fun b14 =>
   cond (!b14)
   (some ⟨1, [.sc (.bool false)], r11.H⟩)
   (C (.loop F.weqGateS 0) [.sc (.sl x0), .sc (.sl x1), .sc (.int .i64 (IntKind.wrap .i64 (x5 + 1)))] r11.H))
  (some ⟨2, [], H⟩) := by kernel_rfl
theorem e_weqGateS (C : Oracle) (a0 a1 : Sl) (H : AH) : (procM P T C (.fn F.weqGateS) [.sc (.sl a0), .sc (.sl a1)] H).run =
  cond ((a0.n : Int) != (a1.n : Int))
  (some ⟨1, [.sc (.bool false)], H⟩)
  ((C (.loop F.weqGateS 0) [.sc (.sl a0), .sc (.sl a1), .sc (.int .i64 0)] H).bind fun r15 =>
   cond (Nat.beq r15.e 1)
   ((nthP r15.vs 0).bind fun p16 =>
    p16.sc?.bind fun c17 =>
    (boolAt [c17] 0).bind fun b18 =>
    some ⟨1, [.sc (.bool b18)], r15.H⟩)
   (cond (Nat.beq r15.e 2)
    (some ⟨1, [.sc (.bool true)], r15.H⟩)
    (none))) := by kernel_rfl
/- loop.example/g03211/laws.markGateS -/
theorem e_wmarkGateS_0 (C : Oracle) (x0 : Sl) (x1 x5 : Int) (H : AH) : (procM P T C (.loop F.wmarkGateS 0) [.sc (.sl x0), .sc (.int .i64 x1), .sc (.int .i64 x5)] H).run =
  cond (decide (x5 < (x0.n : Int)))
  ((ixA x0 x5 3).bind fun o1 =>
   (putR H x0.b (o1 + 0) [.int .i64 x1]).bind fun H2 =>
   (ixA x0 x5 3).bind fun o3 =>
   (putR H2 x0.b (o3 + 1) [.int .i64 (IntKind.wrap .i64 (x1 + 1))]).bind fun H4 =>
   (ixA x0 x5 3).bind fun o5 =>
   (putR H4 x0.b (o5 + 2) [.int .i64 (IntKind.wrap .i64 ((IntKind.wrap .i64 (x1 + 1)) + 1))]).bind fun H6 =>
   C (.loop F.wmarkGateS 0) [.sc (.sl x0), .sc (.int .i64 (IntKind.wrap .i64 ((IntKind.wrap .i64 ((IntKind.wrap .i64 (x1 + 1)) + 1)) + 1))), .sc (.int .i64 (IntKind.wrap .i64 (x5 + 1)))] H6)
  (some ⟨2, [.sc (.int .i64 x1)], H⟩) := by kernel_rfl
theorem e_wmarkGateS (C : Oracle) (a0 : Sl) (a1 : Int) (H : AH) : (procM P T C (.fn F.wmarkGateS) [.sc (.sl a0), .sc (.int .i64 a1)] H).run =
  (C (.loop F.wmarkGateS 0) [.sc (.sl a0), .sc (.int .i64 a1), .sc (.int .i64 0)] H).bind fun r7 =>
  cond (Nat.beq r7.e 2)
  ((nthP r7.vs 0).bind fun p8 =>
   p8.sc?.bind fun c9 =>
   (intAt .i64 [c9] 0).bind fun n10 =>
   some ⟨1, [.sc (.int .i64 n10)], r7.H⟩)
  (none) := by kernel_rfl
/- loop.example/g03211/spec.IsPrime -/
theorem e_sIsPrime_0 (C : Oracle) (x0 x3 : Int) (H : AH) : (procM P T C (.loop F.sIsPrime 0) [.sc (.int .i64 x0), .sc (.int .i64 x3)] H).run =
  cond (decide ((IntKind.wrap .i64 (x3 * x3)) ≤ x0))
  (cond (decide (x0 ≤ 1000003))
   (cond (x3 == 0)
    (none)
    (cond ((Int.tmod x0 x3) == 0)
     (some ⟨1, [.sc (.bool false)], H⟩)
     (C (.loop F.sIsPrime 0) [.sc (.int .i64 x0), .sc (.int .i64 (IntKind.wrap .i64 (x3 + 1)))] H)))
   (some ⟨2, [], H⟩))
  (some ⟨2, [], H⟩) := by kernel_rfl
theorem e_sIsPrime (C : Oracle) (a0 : Int) (H : AH) : (procM P T C (.fn F.sIsPrime) [.sc (.int .i64 a0)] H).run =
  (C (.loop F.sIsPrime 0) [.sc (.int .i64 a0), .sc (.int .i64 2)] H).bind fun r1 =>
  cond (Nat.beq r1.e 1)
  ((nthP r1.vs 0).bind fun p2 =>
   p2.sc?.bind fun c3 =>
   (boolAt [c3] 0).bind fun b4 =>
   some ⟨1, [.sc (.bool b4)], r1.H⟩)
  (cond (Nat.beq r1.e 2)
   ((C (.fn F.sl01In) [.sc (.int .i64 a0), .sc (.int .i64 2), .sc (.int .i64 1000003)] r1.H).bind fun r5 =>
    (oneP r5.vs).bind fun p6 =>
    p6.sc?.bind fun c7 =>
    (boolAt [c7] 0).bind fun b8 =>
    some ⟨1, [.sc (.bool b8)], r5.H⟩)
   (none)) := by kernel_rfl
/- loop.example/g03211/impl.IsPrime -/
theorem e_iIsPrime_0 (C : Oracle) (x0 x3 : Int) (H : AH) : (procM P T C (.loop F.iIsPrime 0) [.sc (.int .i64 x0), .sc (.int .i64 x3)] H).run =
  cond (decide ((IntKind.wrap .i64 (x3 * x3)) ≤ x0))
  (cond (x3 == 0)
   (none)
   (cond ((Int.tmod x0 x3) == 0)
    (some ⟨1, [.sc (.bool false)], H⟩)
    (C (.loop F.iIsPrime 0) [.sc (.int .i64 x0), .sc (.int .i64 (IntKind.wrap .i64 (x3 + 1)))] H)))
  (some ⟨2, [], H⟩) := by kernel_rfl
theorem e_iIsPrime (C : Oracle) (a0 : Int) (H : AH) : (procM P T C (.fn F.iIsPrime) [.sc (.int .i64 a0)] H).run =
  cond (decide (a0 < 2))
  (some ⟨1, [.sc (.bool false)], H⟩)
  (cond (decide (a0 > 1000003))
   (some ⟨1, [.sc (.bool false)], H⟩)
   ((C (.loop F.iIsPrime 0) [.sc (.int .i64 a0), .sc (.int .i64 2)] H).bind fun r1 =>
    cond (Nat.beq r1.e 1)
    ((nthP r1.vs 0).bind fun p2 =>
     p2.sc?.bind fun c3 =>
     (boolAt [c3] 0).bind fun b4 =>
     some ⟨1, [.sc (.bool b4)], r1.H⟩)
    (cond (Nat.beq r1.e 2)
     (some ⟨1, [.sc (.bool true)], r1.H⟩)
     (none)))) := by kernel_rfl
/- loop.example/g03211/spec.TensorSize -/
theorem e_sTensorSize (C : Oracle) (a0_0 a0_1 a0_2 : Sl) (H : AH) : (procM P T C (.fn F.sTensorSize) [.agg [.sl a0_0, .sl a0_1, .sl a0_2]] H).run =
  (C (.fn F.sl05Axes) [.sc (.sl a0_0), .sc (.sl a0_1)] H).bind fun r1 =>
  (oneP r1.vs).bind fun p2 =>
  p2.sc?.bind fun c3 =>
  (boolAt [c3] 0).bind fun b4 =>
  cond (!b4)
  (some ⟨1, [.sc (.int .i64 (-1))], r1.H⟩)
  ((C (.fn F.sl05Product) [.sc (.sl a0_1), .sc (.int .i64 4096)] r1.H).bind fun r5 =>
   (oneP r5.vs).bind fun p6 =>
   p6.sc?.bind fun c7 =>
   (intAt .i64 [c7] 0).bind fun n8 =>
   cond (decide (n8 > 4096))
   (some ⟨1, [.sc (.int .i64 (-1))], r5.H⟩)
   (some ⟨1, [.sc (.int .i64 n8)], r5.H⟩)) := by kernel_rfl
/- loop.example/g03211/spec.l02Width -/
theorem e_sl02Width (C : Oracle) (a0_0 a0_1 a0_2 : Int) (H : AH) : (procM P T C (.fn F.sl02Width) [.agg [.int .i64 a0_0, .int .i64 a0_1, .int .i64 a0_2]] H).run =
  cond (a0_0 == 7)
  (some ⟨1, [.sc (.int .i64 a0_2)], H⟩)
  (cond (a0_0 == 8)
   (some ⟨1, [.sc (.int .i64 4)], H⟩)
   (some ⟨1, [.sc (.int .i64 1)], H⟩)) := by kernel_rfl
/- loop.example/g03211/spec.l02Top -/
theorem e_sl02Top (C : Oracle) (a0_0 a0_1 a0_2 : Int) (H : AH) : (procM P T C (.fn F.sl02Top) [.agg [.int .i64 a0_0, .int .i64 a0_1, .int .i64 a0_2]] H).run =
  cond (a0_0 == 1)
  (some ⟨1, [.sc (.int .i64 1)], H⟩)
  (((cond (a0_0 == 3)
   (some ⟨0, [.sc (.bool (a0_0 == 3))], H⟩)
   (cond (a0_0 == 4)
    (some ⟨0, [.sc (.bool (a0_0 == 4))], H⟩)
    (some ⟨0, [.sc (.bool (a0_0 == 5))], H⟩)) : Option Out)).bind fun r1 =>
   cond (Nat.beq r1.e 0)
   ((nthP r1.vs 0).bind fun p2 =>
    p2.sc?.bind fun c3 =>
    (boolAt [c3] 0).bind fun b4 =>
    cond b4
    (some ⟨1, [.sc (.int .i64 a0_1)], r1.H⟩)
    (cond (a0_0 == 6)
     (cond (decide (a0_2 < 0))
      (none)
      (some ⟨1, [.sc (.int .i64 (IntKind.wrap .i64 ((shlL .i64 1 a0_2) - 1)))], r1.H⟩))
     (some ⟨1, [.sc (.int .i64 (IntKind.wrap .i64 (a0_1 - 1)))], r1.H⟩)))
   (none)) := by kernel_rfl
/- loop.example/g03211/impl.TensorOk -/
theorem e_iTensorOk (C : Oracle) (a0_0 a0_1 a0_2 : Int) (a1_0 a1_1 a1_2 : Sl) (H : AH) : (procM P T C (.fn F.iTensorOk) [.agg [.int .i64 a0_0, .int .i64 a0_1, .int .i64 a0_2], .agg [.sl a1_0, .sl a1_1, .sl a1_2]] H).run =
  (C (.fn F.iRingOk) [.agg [.int .i64 a0_0, .int .i64 a0_1, .int .i64 a0_2]] H).bind fun r1 =>
  (oneP r1.vs).bind fun p2 =>
  p2.sc?.bind fun c3 =>
  (boolAt [c3] 0).bind fun b4 =>
  cond (!b4)
  (some ⟨1, [.sc (.bool false)], r1.H⟩)
  ((C (.fn F.iTensorSize) [.agg [.sl a1_0, .sl a1_1, .sl a1_2]] r1.H).bind fun r5 =>
   (oneP r5.vs).bind fun p6 =>
   p6.sc?.bind fun c7 =>
   (intAt .i64 [c7] 0).bind fun n8 =>
   cond (n8 != (-1))
   ((C (.fn F.irawWidth) [.agg [.int .i64 a0_0, .int .i64 a0_1, .int .i64 a0_2]] r5.H).bind fun r9 =>
    (oneP r9.vs).bind fun p10 =>
    p10.sc?.bind fun c11 =>
    (intAt .i64 [c11] 0).bind fun n12 =>
    cond ((a1_2.n : Int) == (IntKind.wrap .i64 (n8 * n12)))
    ((C (.fn F.iinRing) [.agg [.int .i64 a0_0, .int .i64 a0_1, .int .i64 a0_2], .sc (.sl a1_2)] r9.H).bind fun r13 =>
     (oneP r13.vs).bind fun p14 =>
     p14.sc?.bind fun c15 =>
     (boolAt [c15] 0).bind fun b16 =>
     some ⟨1, [.sc (.bool b16)], r13.H⟩)
    (some ⟨1, [.sc (.bool false)], r9.H⟩))
   (some ⟨1, [.sc (.bool false)], r5.H⟩)) := by kernel_rfl
/- loop.example/g03211/impl.equalInts -/
theorem e_iequalInts_0 (C : Oracle) (x0 x1 : Sl) (x12 x13 : Int) (H : AH) : (procM P T C (.loop F.iequalInts 0) [.sc (.sl x0), .sc (.sl x1), .sc (.int .i64 x12), .sc (.int .i64 x13)] H).run =
  cond (decide (x13 < x12))
  ((ixA x0 x13 1).bind fun o1 =>
   (rdB H x0.b).bind fun c2 =>
   (intAt .i64 c2 o1).bind fun n3 =>
   (ixA x1 x13 1).bind fun o4 =>
   (rdB H x1.b).bind fun c5 =>
   (intAt .i64 c5 o4).bind fun n6 =>
   cond (n3 != n6)
   (some ⟨1, [.sc (.bool false)], H⟩)
   (C (.loop F.iequalInts 0) [.sc (.sl x0), .sc (.sl x1), .sc (.int .i64 x12), .sc (.int .i64 (IntKind.wrap .i64 (x13 + 1)))] H))
  (some ⟨2, [], H⟩) := by kernel_rfl
theorem e_iequalInts (C : Oracle) (a0 a1 : Sl) (H : AH) : (procM P T C (.fn F.iequalInts) [.sc (.sl a0), .sc (.sl a1)] H).run =
  cond ((a0.n : Int) != (a1.n : Int))
  (some ⟨1, [.sc (.bool false)], H⟩)
  ((C (.loop F.iequalInts 0) [.sc (.sl a0), .sc (.sl a1), .sc (.int .i64 (a0.n : Int)), .sc (.int .i64 0)] H).bind fun r7 =>
   cond (Nat.beq r7.e 1)
   ((nthP r7.vs 0).bind fun p8 =>
    p8.sc?.bind fun c9 =>
    (boolAt [c9] 0).bind fun b10 =>
    some ⟨1, [.sc (.bool b10)], r7.H⟩)
   (cond (Nat.beq r7.e 2)
    (some ⟨1, [.sc (.bool true)], r7.H⟩)
    (none))) := by kernel_rfl
/- loop.example/g03211/impl.copyInts -/
theorem e_icopyInts (C : Oracle) (a0 : Sl) (H : AH) : (procM P T C (.fn F.icopyInts) [.sc (.sl a0)] H).run =
  (rng H a0.b a0.o (a0.n * 1)).bind fun l1 =>
  (appB H 1 8 ⟨0, 0, 0, 0, true⟩ l1 a0.n).bind fun m2 =>
  some ⟨1, [.sc (.sl m2.1)], m2.2⟩ := by kernel_rfl
/- loop.example/g03211/impl.fillTensor -/
theorem e_ifillTensor_0 (C : Oracle) (x3 : Sl) (x10 x11 : Int) (y9_0 y9_1 y9_2 : Sl) (H : AH) : (procM P T C (.loop F.ifillTensor 0) [.sc (.sl x3), .sc (.int .i64 x10), .sc (.int .i64 x11), .agg [.sl y9_0, .sl y9_1, .sl y9_2]] H).run =
  cond (decide (x11 < x10))
  ((rng H x3.b x3.o (x3.n * 1)).bind fun l14 =>
   (appB H 1 8 y9_2 l14 x3.n).bind fun m15 =>
   C (.loop F.ifillTensor 0) [.sc (.sl x3), .sc (.int .i64 x10), .sc (.int .i64 (IntKind.wrap .i64 (x11 + 1))), .agg [.sl y9_0, .sl y9_1, .sl m15.1]] m15.2)
  (some ⟨2, [.agg [.sl y9_0, .sl y9_1, .sl y9_2]], H⟩) := by kernel_rfl
theorem e_ifillTensor (C : Oracle) (a0_0 a0_1 a0_2 : Int) (a1 a2 a3 : Sl) (H : AH) : (procM P T C (.fn F.ifillTensor) [.agg [.int .i64 a0_0, .int .i64 a0_1, .int .i64 a0_2], .sc (.sl a1), .sc (.sl a2), .sc (.sl a3)] H).run =
  (C (.fn F.icopyInts) [.sc (.sl a1)] H).bind fun r1 =>
  (oneP r1.vs).bind fun p2 =>
  p2.sc?.bind fun c3 =>
  (slAt [c3] 0).bind fun s4 =>
  (C (.fn F.icopyInts) [.sc (.sl a2)] r1.H).bind fun r5 =>
  (oneP r5.vs).bind fun p6 =>
  p6.sc?.bind fun c7 =>
  (slAt [c7] 0).bind fun s8 =>
  (C (.fn F.iproductOf) [.sc (.sl a2)] r5.H).bind fun r9 =>
  (oneP r9.vs).bind fun p10 =>
  p10.sc?.bind fun c11 =>
  (intAt .i64 [c11] 0).bind fun n12 =>
  (mkB r9.H 1 8 [.int .i64 0] 0 (IntKind.wrap .i64 (n12 * (a3.n : Int)))).bind fun m13 =>
  (C (.loop F.ifillTensor 0) [.sc (.sl a3), .sc (.int .i64 n12), .sc (.int .i64 0), .agg [.sl s4, .sl s8, .sl m13.1]] m13.2).bind fun r16 =>
  cond (Nat.beq r16.e 2)
  (((nthP r16.vs 0).bind PV.agg?).bind fun l17 =>
   cond (decide (l17.length = 3))
   ((slAt l17 0).bind fun s18 =>
    (slAt l17 1).bind fun s19 =>
    (slAt l17 2).bind fun s20 =>
    some ⟨1, [.agg [.sl s18, .sl s19, .sl s20]], r16.H⟩)
   (none))
  (none) := by kernel_rfl
/- loop.example/g03211/impl.rawZero -/
theorem e_irawZero (C : Oracle) (a0_0 a0_1 a0_2 : Int) (H : AH) : (procM P T C (.fn F.irawZero) [.agg [.int .i64 a0_0, .int .i64 a0_1, .int .i64 a0_2]] H).run =
  (C (.fn F.irawWidth) [.agg [.int .i64 a0_0, .int .i64 a0_1, .int .i64 a0_2]] H).bind fun r1 =>
  (oneP r1.vs).bind fun p2 =>
  p2.sc?.bind fun c3 =>
  (intAt .i64 [c3] 0).bind fun n4 =>
  (mkB r1.H 1 8 [.int .i64 0] n4 n4).bind fun m5 =>
  cond (a0_0 == 4)
  ((ixA m5.1 0 1).bind fun o6 =>
   (putR m5.2 m5.1.b o6 [.int .i64 a0_1]).bind fun H7 =>
   some ⟨1, [.sc (.sl m5.1)], H7⟩)
  (some ⟨1, [.sc (.sl m5.1)], m5.2⟩) := by kernel_rfl
/- loop.example/g03211/impl.productOf -/
theorem e_iproductOf_0 (C : Oracle) (x3 : Int) (x6 : Sl) (x7 x8 : Int) (H : AH) : (procM P T C (.loop F.iproductOf 0) [.sc (.int .i64 x3), .sc (.sl x6), .sc (.int .i64 x7), .sc (.int .i64 x8)] H).run =
  cond (decide (x8 < x7))
  ((ixA x6 x8 1).bind fun o1 =>
   (rdB H x6.b).bind fun c2 =>
   (intAt .i64 c2 o1).bind fun n3 =>
   C (.loop F.iproductOf 0) [.sc (.int .i64 (IntKind.wrap .i64 (x3 * n3))), .sc (.sl x6), .sc (.int .i64 x7), .sc (.int .i64 (IntKind.wrap .i64 (x8 + 1)))] H)
  (some ⟨2, [.sc (.int .i64 x3)], H⟩) := by kernel_rfl
theorem e_iproductOf (C : Oracle) (a0 : Sl) (H : AH) : (procM P T C (.fn F.iproductOf) [.sc (.sl a0)] H).run =
  (C (.loop F.iproductOf 0) [.sc (.int .i64 1), .sc (.sl a0), .sc (.int .i64 (a0.n : Int)), .sc (.int .i64 0)] H).bind fun r4 =>
  cond (Nat.beq r4.e 2)
  ((nthP r4.vs 0).bind fun p5 =>
   p5.sc?.bind fun c6 =>
   (intAt .i64 [c6] 0).bind fun n7 =>
   some ⟨1, [.sc (.int .i64 n7)], r4.H⟩)
  (none) := by kernel_rfl
/- loop.example/g03211/impl.rawElem -/
theorem e_irawElem (C : Oracle) (a0_0 a0_1 a0_2 : Int) (a1_0 a1_1 a1_2 : Sl) (a2 : Int) (H : AH) : (procM P T C (.fn F.irawElem) [.agg [.int .i64 a0_0, .int .i64 a0_1, .int .i64 a0_2], .agg [.sl a1_0, .sl a1_1, .sl a1_2], .sc (.int .i64 a2)] H).run =
  (C (.fn F.irawWidth) [.agg [.int .i64 a0_0, .int .i64 a0_1, .int .i64 a0_2]] H).bind fun r1 =>
  (oneP r1.vs).bind fun p2 =>
  p2.sc?.bind fun c3 =>
  (intAt .i64 [c3] 0).bind fun n4 =>
  (slB a1_2 (some (IntKind.wrap .i64 (a2 * n4))) (some (IntKind.wrap .i64 ((IntKind.wrap .i64 (a2 + 1)) * n4))) none 1).bind fun s5 =>
  some ⟨1, [.sc (.sl s5)], r1.H⟩ := by kernel_rfl
/- loop.example/g03211/impl.offsetIn -/
theorem e_ioffsetIn_0 (C : Oracle) (x0 : Sl) (x5 : Int) (x8 : Sl) (x9 x10 : Int) (H : AH) : (procM P T C (.loop F.ioffsetIn 0) [.sc (.sl x0), .sc (.int .i64 x5), .sc (.sl x8), .sc (.int .i64 x9), .sc (.int .i64 x10)] H).run =
  cond (decide (x10 < x9))
  ((ixA x8 x10 1).bind fun o1 =>
   (rdB H x8.b).bind fun c2 =>
   (intAt .i64 c2 o1).bind fun n3 =>
   (ixA x0 x10 1).bind fun o4 =>
   (rdB H x0.b).bind fun c5 =>
   (intAt .i64 c5 o4).bind fun n6 =>
   C (.loop F.ioffsetIn 0) [.sc (.sl x0), .sc (.int .i64 (IntKind.wrap .i64 ((IntKind.wrap .i64 (x5 * n6)) + n3))), .sc (.sl x8), .sc (.int .i64 x9), .sc (.int .i64 (IntKind.wrap .i64 (x10 + 1)))] H)
  (some ⟨2, [.sc (.int .i64 x5)], H⟩) := by kernel_rfl
theorem e_ioffsetIn (C : Oracle) (a0 a1 : Sl) (H : AH) : (procM P T C (.fn F.ioffsetIn) [.sc (.sl a0), .sc (.sl a1)] H).run =
  (C (.loop F.ioffsetIn 0) [.sc (.sl a0), .sc (.int .i64 0), .sc (.sl a1), .sc (.int .i64 (a1.n : Int)), .sc (.int .i64 0)] H).bind fun r7 =>
  cond (Nat.beq r7.e 2)
  ((nthP r7.vs 0).bind fun p8 =>
   p8.sc?.bind fun c9 =>
   (intAt .i64 [c9] 0).bind fun n10 =>
   some ⟨1, [.sc (.int .i64 n10)], r7.H⟩)
  (none) := by kernel_rfl
/- loop.example/g03211/impl.phaseOf -/
theorem e_iphaseOf (C : Oracle) (a0 : Int) (H : AH) : (procM P T C (.fn F.iphaseOf) [.sc (.int .i64 a0)] H).run =
  ((cond (a0 == 2)
   (some ⟨0, [.sc (.bool (a0 == 2))], H⟩)
   (some ⟨0, [.sc (.bool (a0 == 9))], H⟩) : Option Out)).bind fun r1 =>
  cond (Nat.beq r1.e 0)
  ((nthP r1.vs 0).bind fun p2 =>
   p2.sc?.bind fun c3 =>
   (boolAt [c3] 0).bind fun b4 =>
   cond b4
   (some ⟨1, [.sc (.int .i64 4), .sc (.bool true)], r1.H⟩)
   (cond (a0 == 3)
    (some ⟨1, [.sc (.int .i64 2), .sc (.bool true)], r1.H⟩)
    (cond (a0 == 4)
     (some ⟨1, [.sc (.int .i64 1), .sc (.bool true)], r1.H⟩)
     (cond (a0 == 6)
      (some ⟨1, [.sc (.int .i64 6), .sc (.bool true)], r1.H⟩)
      (cond (a0 == 7)
       (some ⟨1, [.sc (.int .i64 7), .sc (.bool true)], r1.H⟩)
       (some ⟨1, [.sc (.int .i64 0), .sc (.bool false)], r1.H⟩))))))
  (none) := by kernel_rfl
/- loop.example/g03211/impl.rawInverse -/
theorem e_irawInverse_0 (C : Oracle) (x0 x1 x5 x6 : Int) (H : AH) : (procM P T C (.loop F.irawInverse 0) [.sc (.int .i64 x0), .sc (.int .i64 x1), .sc (.int .i64 x5), .sc (.int .i64 x6)] H).run =
  cond (decide (x6 > 0))
  (cond ((bitAnd .i64 x6 1) == 1)
   (cond (x0 == 0)
    (none)
    (cond (x0 == 0)
     (none)
     (C (.loop F.irawInverse 0) [.sc (.int .i64 x0), .sc (.int .i64 (Int.tmod (IntKind.wrap .i64 (x1 * x1)) x0)), .sc (.int .i64 (Int.tmod (IntKind.wrap .i64 (x5 * x1)) x0)), .sc (.int .i64 (shlR .i64 x6 1))] H)))
   (cond (x0 == 0)
    (none)
    (C (.loop F.irawInverse 0) [.sc (.int .i64 x0), .sc (.int .i64 (Int.tmod (IntKind.wrap .i64 (x1 * x1)) x0)), .sc (.int .i64 x5), .sc (.int .i64 (shlR .i64 x6 1))] H)))
  (some ⟨2, [.sc (.int .i64 x5)], H⟩) := by kernel_rfl
theorem e_irawInverse (C : Oracle) (a0 a1 : Int) (H : AH) : (procM P T C (.fn F.irawInverse) [.sc (.int .i64 a0), .sc (.int .i64 a1)] H).run =
  (C (.loop F.irawInverse 0) [.sc (.int .i64 a0), .sc (.int .i64 a1), .sc (.int .i64 1), .sc (.int .i64 (IntKind.wrap .i64 (a0 - 2)))] H).bind fun r1 =>
  cond (Nat.beq r1.e 2)
  ((nthP r1.vs 0).bind fun p2 =>
   p2.sc?.bind fun c3 =>
   (intAt .i64 [c3] 0).bind fun n4 =>
   some ⟨1, [.sc (.int .i64 n4)], r1.H⟩)
  (none) := by kernel_rfl
/- loop.example/g03211/spec.l02Zero -/
theorem e_sl02Zero (C : Oracle) (a0_0 a0_1 a0_2 : Int) (H : AH) : (procM P T C (.fn F.sl02Zero) [.agg [.int .i64 a0_0, .int .i64 a0_1, .int .i64 a0_2]] H).run =
  (C (.fn F.sl02Width) [.agg [.int .i64 a0_0, .int .i64 a0_1, .int .i64 a0_2]] H).bind fun r1 =>
  (oneP r1.vs).bind fun p2 =>
  p2.sc?.bind fun c3 =>
  (intAt .i64 [c3] 0).bind fun n4 =>
  (mkB r1.H 1 8 [.int .i64 0] n4 n4).bind fun m5 =>
  cond (a0_0 == 4)
  ((ixA m5.1 0 1).bind fun o6 =>
   (putR m5.2 m5.1.b o6 [.int .i64 a0_1]).bind fun H7 =>
   some ⟨1, [.sc (.sl m5.1)], H7⟩)
  (some ⟨1, [.sc (.sl m5.1)], m5.2⟩) := by kernel_rfl
/- loop.example/g03211/spec.l12Dim -/
theorem e_sl12Dim_0 (C : Oracle) (x1 : Int) (x8 : Sl) (x9 x10 : Int) (H : AH) : (procM P T C (.loop F.sl12Dim 0) [.sc (.int .i64 x1), .sc (.sl x8), .sc (.int .i64 x9), .sc (.int .i64 x10)] H).run =
  cond (decide (x10 < x9))
  ((ixA x8 x10 3).bind fun o1 =>
   (rdB H x8.b).bind fun c2 =>
   (slAt c2 o1).bind fun s3 =>
   (slAt c2 (o1 + 1)).bind fun s4 =>
   (slAt c2 (o1 + 1 + 1)).bind fun s5 =>
   (C (.fn F.sl05Find) [.sc (.sl s3), .sc (.int .i64 x1)] H).bind fun r6 =>
   (oneP r6.vs).bind fun p7 =>
   p7.sc?.bind fun c8 =>
   (intAt .i64 [c8] 0).bind fun n9 =>
   cond (decide (n9 ≥ 0))
   ((ixA s4 n9 1).bind fun o10 =>
    (rdB r6.H s4.b).bind fun c11 =>
    (intAt .i64 c11 o10).bind fun n12 =>
    some ⟨1, [.sc (.int .i64 n12)], r6.H⟩)
   (C (.loop F.sl12Dim 0) [.sc (.int .i64 x1), .sc (.sl x8), .sc (.int .i64 x9), .sc (.int .i64 (IntKind.wrap .i64 (x10 + 1)))] r6.H))
  (some ⟨2, [], H⟩) := by kernel_rfl
theorem e_sl12Dim (C : Oracle) (a0 : Sl) (a1 : Int) (H : AH) : (procM P T C (.fn F.sl12Dim) [.sc (.sl a0), .sc (.int .i64 a1)] H).run =
  (C (.loop F.sl12Dim 0) [.sc (.int .i64 a1), .sc (.sl a0), .sc (.int .i64 (a0.n : Int)), .sc (.int .i64 0)] H).bind fun r13 =>
  cond (Nat.beq r13.e 1)
  ((nthP r13.vs 0).bind fun p14 =>
   p14.sc?.bind fun c15 =>
   (intAt .i64 [c15] 0).bind fun n16 =>
   some ⟨1, [.sc (.int .i64 n16)], r13.H⟩)
  (cond (Nat.beq r13.e 2)
   (some ⟨1, [.sc (.int .i64 0)], r13.H⟩)
   (none)) := by kernel_rfl
/- loop.example/g03211/spec.l12Dims -/
theorem e_sl12Dims_0 (C : Oracle) (x0 x5 x9 : Sl) (x10 x11 : Int) (H : AH) : (procM P T C (.loop F.sl12Dims 0) [.sc (.sl x0), .sc (.sl x5), .sc (.sl x9), .sc (.int .i64 x10), .sc (.int .i64 x11)] H).run =
  cond (decide (x11 < x10))
  ((ixA x9 x11 1).bind fun o2 =>
   (rdB H x9.b).bind fun c3 =>
   (intAt .i64 c3 o2).bind fun n4 =>
   (C (.fn F.sl12Dim) [.sc (.sl x0), .sc (.int .i64 n4)] H).bind fun r5 =>
   (oneP r5.vs).bind fun p6 =>
   p6.sc?.bind fun c7 =>
   (intAt .i64 [c7] 0).bind fun n8 =>
   (newB r5.H 1 [.int .i64 n8]).bind fun h9 =>
   (rng h9.2 h9.1 0 (1 * 1)).bind fun l10 =>
   (appB h9.2 1 8 x5 l10 1).bind fun m11 =>
   C (.loop F.sl12Dims 0) [.sc (.sl x0), .sc (.sl m11.1), .sc (.sl x9), .sc (.int .i64 x10), .sc (.int .i64 (IntKind.wrap .i64 (x11 + 1)))] m11.2)
  (some ⟨2, [.sc (.sl x5)], H⟩) := by kernel_rfl
theorem e_sl12Dims (C : Oracle) (a0 a1 : Sl) (H : AH) : (procM P T C (.fn F.sl12Dims) [.sc (.sl a0), .sc (.sl a1)] H).run =
  (newB H 1 []).bind fun h1 =>
  (C (.loop F.sl12Dims 0) [.sc (.sl a0), .sc (.sl ⟨h1.1, 0, 0, 0, true⟩), .sc (.sl a1), .sc (.int .i64 (a1.n : Int)), .sc (.int .i64 0)] h1.2).bind fun r12 =>
  cond (Nat.beq r12.e 2)
  ((nthP r12.vs 0).bind fun p13 =>
   p13.sc?.bind fun c14 =>
   (slAt [c14] 0).bind fun s15 =>
   some ⟨1, [.sc (.sl s15)], r12.H⟩)
  (none) := by kernel_rfl
/- loop.example/g03211/impl.hasInt -/
theorem e_ihasInt_0 (C : Oracle) (x1 : Int) (x7 : Sl) (x8 x9 : Int) (H : AH) : (procM P T C (.loop F.ihasInt 0) [.sc (.int .i64 x1), .sc (.sl x7), .sc (.int .i64 x8), .sc (.int .i64 x9)] H).run =
  cond (decide (x9 < x8))
  ((ixA x7 x9 1).bind fun o1 =>
   (rdB H x7.b).bind fun c2 =>
   (intAt .i64 c2 o1).bind fun n3 =>
   cond (x1 == n3)
   (some ⟨1, [.sc (.bool true)], H⟩)
   (C (.loop F.ihasInt 0) [.sc (.int .i64 x1), .sc (.sl x7), .sc (.int .i64 x8), .sc (.int .i64 (IntKind.wrap .i64 (x9 + 1)))] H))
  (some ⟨2, [], H⟩) := by kernel_rfl
theorem e_ihasInt (C : Oracle) (a0 : Sl) (a1 : Int) (H : AH) : (procM P T C (.fn F.ihasInt) [.sc (.sl a0), .sc (.int .i64 a1)] H).run =
  (C (.loop F.ihasInt 0) [.sc (.int .i64 a1), .sc (.sl a0), .sc (.int .i64 (a0.n : Int)), .sc (.int .i64 0)] H).bind fun r4 =>
  cond (Nat.beq r4.e 1)
  ((nthP r4.vs 0).bind fun p5 =>
   p5.sc?.bind fun c6 =>
   (boolAt [c6] 0).bind fun b7 =>
   some ⟨1, [.sc (.bool b7)], r4.H⟩)
  (cond (Nat.beq r4.e 2)
   (some ⟨1, [.sc (.bool false)], r4.H⟩)
   (none)) := by kernel_rfl
/- loop.example/g03211/impl.clauseTrue -/
theorem e_iclauseTrue_0 (C : Oracle) (x1 x7 : Sl) (x8 x9 : Int) (H : AH) : (procM P T C (.loop F.iclauseTrue 0) [.sc (.sl x1), .sc (.sl x7), .sc (.int .i64 x8), .sc (.int .i64 x9)] H).run =
  cond (decide (x9 < x8))
  ((ixA x7 x9 1).bind fun o1 =>
   (rdB H x7.b).bind fun c2 =>
   (intAt .i64 c2 o1).bind fun n3 =>
   (C (.fn F.ivariableOf) [.sc (.int .i64 n3)] H).bind fun r4 =>
   (oneP r4.vs).bind fun p5 =>
   p5.sc?.bind fun c6 =>
   (intAt .i64 [c6] 0).bind fun n7 =>
   (ixA x1 (IntKind.wrap .i64 (n7 - 1)) 1).bind fun o8 =>
   (rdB r4.H x1.b).bind fun c9 =>
   (intAt .i64 c9 o8).bind fun n10 =>
   cond ((n10 == 1) == (decide (n3 > 0)))
   (some ⟨1, [.sc (.bool true)], r4.H⟩)
   (C (.loop F.iclauseTrue 0) [.sc (.sl x1), .sc (.sl x7), .sc (.int .i64 x8), .sc (.int .i64 (IntKind.wrap .i64 (x9 + 1)))] r4.H))
  (some ⟨2, [], H⟩) := by kernel_rfl
theorem e_iclauseTrue (C : Oracle) (a0 a1 : Sl) (H : AH) : (procM P T C (.fn F.iclauseTrue) [.sc (.sl a0), .sc (.sl a1)] H).run =
  (C (.loop F.iclauseTrue 0) [.sc (.sl a1), .sc (.sl a0), .sc (.int .i64 (a0.n : Int)), .sc (.int .i64 0)] H).bind fun r11 =>
  cond (Nat.beq r11.e 1)
  ((nthP r11.vs 0).bind fun p12 =>
   p12.sc?.bind fun c13 =>
   (boolAt [c13] 0).bind fun b14 =>
   some ⟨1, [.sc (.bool b14)], r11.H⟩)
  (cond (Nat.beq r11.e 2)
   (some ⟨1, [.sc (.bool false)], r11.H⟩)
   (none)) := by kernel_rfl
/- loop.example/g03211/impl.nextIndex -/
theorem e_inextIndex_0 (C : Oracle) (x0 x1 : Sl) (x5 : Int) (H : AH) : (procM P T C (.loop F.inextIndex 0) [.sc (.sl x0), .sc (.sl x1), .sc (.int .i64 x5)] H).run =
  cond (decide (x5 ≥ 0))
  ((ixA x1 x5 1).bind fun o1 =>
   (rdB H x1.b).bind fun c2 =>
   (intAt .i64 c2 o1).bind fun n3 =>
   (ixA x1 x5 1).bind fun o4 =>
   (putR H x1.b o4 [.int .i64 (IntKind.wrap .i64 (n3 + 1))]).bind fun H5 =>
   (ixA x1 x5 1).bind fun o6 =>
   (rdB H5 x1.b).bind fun c7 =>
   (intAt .i64 c7 o6).bind fun n8 =>
   (ixA x0 x5 1).bind fun o9 =>
   (rdB H5 x0.b).bind fun c10 =>
   (intAt .i64 c10 o9).bind fun n11 =>
   cond (decide (n8 < n11))
   (some ⟨1, [.sc (.bool true)], H5⟩)
   ((ixA x1 x5 1).bind fun o12 =>
    (putR H5 x1.b o12 [.int .i64 0]).bind fun H13 =>
    C (.loop F.inextIndex 0) [.sc (.sl x0), .sc (.sl x1), .sc (.int .i64 (IntKind.wrap .i64 (x5 - 1)))] H13))
  (some ⟨2, [], H⟩) := by kernel_rfl
theorem e_inextIndex (C : Oracle) (a0 a1 : Sl) (H : AH) : (procM P T C (.fn F.inextIndex) [.sc (.sl a0), .sc (.sl a1)] H).run =
  (C (.loop F.inextIndex 0) [.sc (.sl a0), .sc (.sl a1), .sc (.int .i64 (IntKind.wrap .i64 ((a0.n : Int) - 1)))] H).bind fun r14 =>
  cond (Nat.beq r14.e 1)
  ((nthP r14.vs 0).bind fun p15 =>
   p15.sc?.bind fun c16 =>
   (boolAt [c16] 0).bind fun b17 =>
   some ⟨1, [.sc (.bool b17)], r14.H⟩)
  (cond (Nat.beq r14.e 2)
   (some ⟨1, [.sc (.bool false)], r14.H⟩)
   (none)) := by kernel_rfl
/- loop.example/g03211/impl.rawWidth -/
theorem e_irawWidth (C : Oracle) (a0_0 a0_1 a0_2 : Int) (H : AH) : (procM P T C (.fn F.irawWidth) [.agg [.int .i64 a0_0, .int .i64 a0_1, .int .i64 a0_2]] H).run =
  cond (a0_0 == 7)
  (some ⟨1, [.sc (.int .i64 a0_2)], H⟩)
  (cond (a0_0 == 8)
   (some ⟨1, [.sc (.int .i64 4)], H⟩)
   (some ⟨1, [.sc (.int .i64 1)], H⟩)) := by kernel_rfl
/- loop.example/g03211/impl.rawTop -/
theorem e_irawTop (C : Oracle) (a0_0 a0_1 a0_2 : Int) (H : AH) : (procM P T C (.fn F.irawTop) [.agg [.int .i64 a0_0, .int .i64 a0_1, .int .i64 a0_2]] H).run =
  cond (a0_0 == 1)
  (some ⟨1, [.sc (.int .i64 1)], H⟩)
  (((cond (a0_0 == 3)
   (some ⟨0, [.sc (.bool (a0_0 == 3))], H⟩)
   (cond (a0_0 == 4)
    (some ⟨0, [.sc (.bool (a0_0 == 4))], H⟩)
    (some ⟨0, [.sc (.bool (a0_0 == 5))], H⟩)) : Option Out)).bind fun r1 =>
   cond (Nat.beq r1.e 0)
   ((nthP r1.vs 0).bind fun p2 =>
    p2.sc?.bind fun c3 =>
    (boolAt [c3] 0).bind fun b4 =>
    cond b4
    (some ⟨1, [.sc (.int .i64 a0_1)], r1.H⟩)
    (cond (a0_0 == 6)
     (cond (decide (a0_2 < 0))
      (none)
      (some ⟨1, [.sc (.int .i64 (IntKind.wrap .i64 ((shlL .i64 1 a0_2) - 1)))], r1.H⟩))
     (some ⟨1, [.sc (.int .i64 (IntKind.wrap .i64 (a0_1 - 1)))], r1.H⟩)))
   (none)) := by kernel_rfl
/- loop.example/g03211/impl.dimsOf -/
theorem e_idimsOf_0 (C : Oracle) (x9 : Sl) (x10 x11 : Int) (y2 y4 : List Sc) (H : AH) : (procM P T C (.loop F.idimsOf 0) [.sc (.sl x9), .sc (.int .i64 x10), .sc (.int .i64 x11), .agg y2, .agg y4] H).run =
  cond (decide (x11 < x10))
  ((ixA x9 x11 3).bind fun o1 =>
   (rdB H x9.b).bind fun c2 =>
   (slAt c2 o1).bind fun s3 =>
   (slAt c2 (o1 + 1)).bind fun s4 =>
   (slAt c2 (o1 + 1 + 1)).bind fun s5 =>
   (C (.loop F.idimsOf 1) [.sc (.sl s3), .sc (.int .i64 (s3.n : Int)), .sc (.int .i64 0), .agg y2, .agg y4, .agg [.sl s3, .sl s4, .sl s5]] H).bind fun r26 =>
   cond (Nat.beq r26.e 1)
   ((nthP r26.vs 0).bind fun p27 =>
    p27.sc?.bind fun c28 =>
    (boolAt [c28] 0).bind fun b29 =>
    ((nthP r26.vs 1).bind PV.agg?).bind fun l30 =>
    cond (decide (l30.length = 100))
    (((nthP r26.vs 2).bind PV.agg?).bind fun l31 =>
     cond (decide (l31.length = 100))
     (some ⟨1, [.sc (.bool b29), .agg l30, .agg l31], r26.H⟩)
     (none))
    (none))
   (cond (Nat.beq r26.e 4)
    (((nthP r26.vs 0).bind PV.agg?).bind fun l32 =>
     cond (decide (l32.length = 100))
     (((nthP r26.vs 1).bind PV.agg?).bind fun l33 =>
      cond (decide (l33.length = 100))
      (C (.loop F.idimsOf 0) [.sc (.sl x9), .sc (.int .i64 x10), .sc (.int .i64 (IntKind.wrap .i64 (x11 + 1))), .agg l32, .agg l33] r26.H)
      (none))
     (none))
    (none)))
  (some ⟨2, [.agg y2, .agg y4], H⟩) := by kernel_rfl
theorem e_idimsOf_1 (C : Oracle) (x16 : Sl) (x17 x18 : Int) (y2 y4 : List Sc) (y6_0 y6_1 y6_2 : Sl) (H : AH) : (procM P T C (.loop F.idimsOf 1) [.sc (.sl x16), .sc (.int .i64 x17), .sc (.int .i64 x18), .agg y2, .agg y4, .agg [.sl y6_0, .sl y6_1, .sl y6_2]] H).run =
  cond (decide (x18 < x17))
  ((ixA x16 x18 1).bind fun o6 =>
   (rdB H x16.b).bind fun c7 =>
   (intAt .i64 c7 o6).bind fun n8 =>
   (((ixA ⟨0, 0, 100, 100, true⟩ n8 1).bind fun o9 =>
   (intAt .i64 y4 o9).bind fun n10 =>
   cond (n10 != 0)
   ((ixA ⟨0, 0, 100, 100, true⟩ n8 1).bind fun o11 =>
    (intAt .i64 y4 o11).bind fun n12 =>
    (ixA y6_1 x18 1).bind fun o13 =>
    (rdB H y6_1.b).bind fun c14 =>
    (intAt .i64 c14 o13).bind fun n15 =>
    cond (n12 != n15)
    (cond (decide (100 ≤ y4.length))
     (cond (Nat.beq ((y4.drop 0).take 100).length 100)
      (cond (decide (0 + ((y4.drop 0).take 100).length ≤ y2.length))
       (some ⟨1, [.sc (.bool false), .agg (setAll y2 0 ((y4.drop 0).take 100))], H⟩)
       (none))
      (none))
     (none))
    (some ⟨0, [.agg y2], H⟩))
   (some ⟨0, [.agg y2], H⟩) : Option Out)).bind fun r16 =>
   cond (Nat.beq r16.e 0)
   (((nthP r16.vs 0).bind PV.agg?).bind fun l17 =>
    cond (decide (l17.length = 100))
    ((ixA y6_1 x18 1).bind fun o18 =>
     (rdB r16.H y6_1.b).bind fun c19 =>
     (intAt .i64 c19 o18).bind fun n20 =>
     (ixA ⟨0, 0, 100, 100, true⟩ n8 1).bind fun o21 =>
     cond (decide (o21 + 1 ≤ y4.length))
     (C (.loop F.idimsOf 1) [.sc (.sl x16), .sc (.int .i64 x17), .sc (.int .i64 (IntKind.wrap .i64 (x18 + 1))), .agg l17, .agg (y4.set o21 (.int .i64 n20)), .agg [.sl y6_0, .sl y6_1, .sl y6_2]] r16.H)
     (none))
    (none))
   (cond (Nat.beq r16.e 1)
    ((nthP r16.vs 0).bind fun p22 =>
     p22.sc?.bind fun c23 =>
     (boolAt [c23] 0).bind fun b24 =>
     ((nthP r16.vs 1).bind PV.agg?).bind fun l25 =>
     cond (decide (l25.length = 100))
     (some ⟨1, [.sc (.bool b24), .agg l25, .agg y4], r16.H⟩)
     (none))
    (none)))
  (some ⟨4, [.agg y2, .agg y4], H⟩) := by kernel_rfl
theorem e_idimsOf (C : Oracle) (a0 : Sl) (H : AH) : (procM P T C (.fn F.idimsOf) [.sc (.sl a0)] H).run =
  (C (.loop F.idimsOf 0) [.sc (.sl a0), .sc (.int .i64 (a0.n : Int)), .sc (.int .i64 0), .agg (zc P Y.t100_int), .agg (zc P Y.t100_int)] H).bind fun r34 =>
  cond (Nat.beq r34.e 1)
  ((nthP r34.vs 0).bind fun p35 =>
   p35.sc?.bind fun c36 =>
   (boolAt [c36] 0).bind fun b37 =>
   ((nthP r34.vs 1).bind PV.agg?).bind fun l38 =>
   cond (decide (l38.length = 100))
   (((nthP r34.vs 2).bind PV.agg?).bind fun l39 =>
    cond (decide (l39.length = 100))
    (cond (decide (100 ≤ l38.length))
     (some ⟨1, [.agg ((l38.drop 0).take 100), .sc (.bool b37)], r34.H⟩)
     (none))
    (none))
   (none))
  (cond (Nat.beq r34.e 2)
   (((nthP r34.vs 0).bind PV.agg?).bind fun l40 =>
    cond (decide (l40.length = 100))
    (((nthP r34.vs 1).bind PV.agg?).bind fun l41 =>
     cond (decide (l41.length = 100))
     (cond (decide (100 ≤ l41.length))
      (cond (Nat.beq ((l41.drop 0).take 100).length 100)
       (cond (decide (0 + ((l41.drop 0).take 100).length ≤ l40.length))
        (cond (decide (100 ≤ (setAll l40 0 ((l41.drop 0).take 100)).length))
         (some ⟨1, [.agg (((setAll l40 0 ((l41.drop 0).take 100)).drop 0).take 100), .sc (.bool true)], r34.H⟩)
         (none))
        (none))
       (none))
      (none))
     (none))
    (none))
   (none)) := by kernel_rfl
/- loop.example/g03211/impl.TensorSize -/
theorem e_iTensorSize_0 (C : Oracle) (x3 : Int) (x21 : Sl) (x22 x23 : Int) (y1_0 y1_1 y1_2 : Sl) (H : AH) : (procM P T C (.loop F.iTensorSize 0) [.sc (.int .i64 x3), .sc (.sl x21), .sc (.int .i64 x22), .sc (.int .i64 x23), .agg [.sl y1_0, .sl y1_1, .sl y1_2]] H).run =
  cond (decide (x23 < x22))
  ((ixA x21 x23 1).bind fun o1 =>
   (rdB H x21.b).bind fun c2 =>
   (intAt .i64 c2 o1).bind fun n3 =>
   cond (decide (n3 < 0))
   (some ⟨1, [.sc (.int .i64 (-1))], H⟩)
   (cond (decide (n3 > 99))
    (some ⟨1, [.sc (.int .i64 (-1))], H⟩)
    ((slB y1_0 none (some x23) none 1).bind fun s4 =>
     (C (.fn F.ihasInt) [.sc (.sl s4), .sc (.int .i64 n3)] H).bind fun r5 =>
     (oneP r5.vs).bind fun p6 =>
     p6.sc?.bind fun c7 =>
     (boolAt [c7] 0).bind fun b8 =>
     cond b8
     (some ⟨1, [.sc (.int .i64 (-1))], r5.H⟩)
     ((ixA y1_1 x23 1).bind fun o9 =>
      (rdB r5.H y1_1.b).bind fun c10 =>
      (intAt .i64 c10 o9).bind fun n11 =>
      cond (decide (n11 < 1))
      (some ⟨1, [.sc (.int .i64 (-1))], r5.H⟩)
      (cond (decide (n11 > 8))
       (some ⟨1, [.sc (.int .i64 (-1))], r5.H⟩)
       (cond (decide ((IntKind.wrap .i64 (x3 * n11)) > 4096))
        (some ⟨1, [.sc (.int .i64 (-1))], r5.H⟩)
        (C (.loop F.iTensorSize 0) [.sc (.int .i64 (IntKind.wrap .i64 (x3 * n11))), .sc (.sl x21), .sc (.int .i64 x22), .sc (.int .i64 (IntKind.wrap .i64 (x23 + 1))), .agg [.sl y1_0, .sl y1_1, .sl y1_2]] r5.H)))))))
  (some ⟨2, [.sc (.int .i64 x3)], H⟩) := by kernel_rfl
theorem e_iTensorSize (C : Oracle) (a0_0 a0_1 a0_2 : Sl) (H : AH) : (procM P T C (.fn F.iTensorSize) [.agg [.sl a0_0, .sl a0_1, .sl a0_2]] H).run =
  cond (decide ((a0_0.n : Int) > 12))
  (some ⟨1, [.sc (.int .i64 (-1))], H⟩)
  (cond ((a0_0.n : Int) != (a0_1.n : Int))
   (some ⟨1, [.sc (.int .i64 (-1))], H⟩)
   ((C (.loop F.iTensorSize 0) [.sc (.int .i64 1), .sc (.sl a0_0), .sc (.int .i64 (a0_0.n : Int)), .sc (.int .i64 0), .agg [.sl a0_0, .sl a0_1, .sl a0_2]] H).bind fun r12 =>
    cond (Nat.beq r12.e 1)
    ((nthP r12.vs 0).bind fun p13 =>
     p13.sc?.bind fun c14 =>
     (intAt .i64 [c14] 0).bind fun n15 =>
     some ⟨1, [.sc (.int .i64 n15)], r12.H⟩)
    (cond (Nat.beq r12.e 2)
     ((nthP r12.vs 0).bind fun p16 =>
      p16.sc?.bind fun c17 =>
      (intAt .i64 [c17] 0).bind fun n18 =>
      some ⟨1, [.sc (.int .i64 n18)], r12.H⟩)
     (none)))) := by kernel_rfl
/- loop.example/g03211/impl.axesOf -/
theorem e_iaxesOf_0 (C : Oracle) (x14 : Sl) (x15 x16 : Int) (y2 : List Sc) (y5_0 y5_1 y5_2 : Sl) (H : AH) : (procM P T C (.loop F.iaxesOf 0) [.sc (.sl x14), .sc (.int .i64 x15), .sc (.int .i64 x16), .agg y2, .agg [.sl y5_0, .sl y5_1, .sl y5_2]] H).run =
  cond (decide (x16 < x15))
  ((ixA x14 x16 1).bind fun o6 =>
   (rdB H x14.b).bind fun c7 =>
   (intAt .i64 c7 o6).bind fun n8 =>
   (ixA ⟨0, 0, 100, 100, true⟩ n8 1).bind fun o9 =>
   (intAt .i64 y2 o9).bind fun n10 =>
   (ixA y5_1 x16 1).bind fun o11 =>
   (putR H y5_1.b o11 [.int .i64 n10]).bind fun H12 =>
   C (.loop F.iaxesOf 0) [.sc (.sl x14), .sc (.int .i64 x15), .sc (.int .i64 (IntKind.wrap .i64 (x16 + 1))), .agg y2, .agg [.sl y5_0, .sl y5_1, .sl y5_2]] H12)
  (some ⟨2, [], H⟩) := by kernel_rfl
theorem e_iaxesOf (C : Oracle) (a0 : List Sc) (a1 : Sl) (H : AH) : (procM P T C (.fn F.iaxesOf) [.agg a0, .sc (.sl a1)] H).run =
  (C (.fn F.icopyInts) [.sc (.sl a1)] ((reserve H 1).set (H.length + 0) deadB)).bind fun r1 =>
  (oneP r1.vs).bind fun p2 =>
  p2.sc?.bind fun c3 =>
  (slAt [c3] 0).bind fun s4 =>
  cond (decide (r1.H.length ≥ (reserve H 1).length))
  ((mkAt (restB (reserve H 1) r1.H (H.length + 0)) (H.length + 0) 1 8 [.int .i64 0] (a1.n : Int) (a1.n : Int)).bind fun m5 =>
   (C (.loop F.iaxesOf 0) [.sc (.sl a1), .sc (.int .i64 (a1.n : Int)), .sc (.int .i64 0), .agg a0, .agg [.sl s4, .sl m5.1, .sl ⟨0, 0, 0, 0, true⟩]] m5.2).bind fun r13 =>
   cond (Nat.beq r13.e 2)
   (some ⟨1, [.agg [.sl s4, .sl m5.1, .sl ⟨0, 0, 0, 0, true⟩]], r13.H⟩)
   (none))
  (none) := by kernel_rfl
/- loop.example/g03211/laws.szTensorS -/
theorem e_wszTensorS_0 (C : Oracle) (x0 : Sl) (x1 x5 : Int) (H : AH) : (procM P T C (.loop F.wszTensorS 0) [.sc (.sl x0), .sc (.int .i64 x1), .sc (.int .i64 x5)] H).run =
  cond (decide (x5 < (x0.n : Int)))
  ((ixA x0 x5 3).bind fun o1 =>
   (rdB H x0.b).bind fun c2 =>
   (slAt c2 o1).bind fun s3 =>
   (slAt c2 (o1 + 1)).bind fun s4 =>
   (slAt c2 (o1 + 1 + 1)).bind fun s5 =>
   (C (.fn F.wszTensor) [.agg [.sl s3, .sl s4, .sl s5], .sc (.int .i64 x1)] H).bind fun r6 =>
   (oneP r6.vs).bind fun p7 =>
   p7.sc?.bind fun c8 =>
   (intAt .i64 [c8] 0).bind fun n9 =>
   cond (decide (n9 < 0))
   (some ⟨1, [.sc (.int .i64 (-1))], r6.H⟩)
   (C (.loop F.wszTensorS 0) [.sc (.sl x0), .sc (.int .i64 n9), .sc (.int .i64 (IntKind.wrap .i64 (x5 + 1)))] r6.H))
  (some ⟨2, [.sc (.int .i64 x1)], H⟩) := by kernel_rfl
theorem e_wszTensorS (C : Oracle) (a0 : Sl) (a1 : Int) (H : AH) : (procM P T C (.fn F.wszTensorS) [.sc (.sl a0), .sc (.int .i64 a1)] H).run =
  cond (decide ((IntKind.wrap .i64 (a1 - (a0.n : Int))) < 0))
  (some ⟨1, [.sc (.int .i64 (-1))], H⟩)
  ((C (.loop F.wszTensorS 0) [.sc (.sl a0), .sc (.int .i64 (IntKind.wrap .i64 (a1 - (a0.n : Int)))), .sc (.int .i64 0)] H).bind fun r10 =>
   cond (Nat.beq r10.e 1)
   ((nthP r10.vs 0).bind fun p11 =>
    p11.sc?.bind fun c12 =>
    (intAt .i64 [c12] 0).bind fun n13 =>
    some ⟨1, [.sc (.int .i64 n13)], r10.H⟩)
   (cond (Nat.beq r10.e 2)
    ((nthP r10.vs 0).bind fun p14 =>
     p14.sc?.bind fun c15 =>
     (intAt .i64 [c15] 0).bind fun n16 =>
     some ⟨1, [.sc (.int .i64 n16)], r10.H⟩)
    (none))) := by kernel_rfl
/- loop.example/g03211/spec.SliceCount -/
theorem e_sSliceCount_0 (C : Oracle) (x1 x5 x18 : Sl) (x19 x20 : Int) (H : AH) : (procM P T C (.loop F.sSliceCount 0) [.sc (.sl x1), .sc (.sl x5), .sc (.sl x18), .sc (.int .i64 x19), .sc (.int .i64 x20)] H).run =
  cond (decide (x20 < x19))
  ((ixA x18 x20 1).bind fun o9 =>
   (rdB H x18.b).bind fun c10 =>
   (intAt .i64 c10 o9).bind fun n11 =>
   (C (.fn F.sl05Find) [.sc (.sl x5), .sc (.int .i64 n11)] H).bind fun r12 =>
   (oneP r12.vs).bind fun p13 =>
   p13.sc?.bind fun c14 =>
   (intAt .i64 [c14] 0).bind fun n15 =>
   cond (decide (n15 < 0))
   (some ⟨1, [.sc (.int .i64 (-1))], r12.H⟩)
   ((slB x1 none (some x20) none 1).bind fun s16 =>
    (C (.fn F.sl05Find) [.sc (.sl s16), .sc (.int .i64 n11)] r12.H).bind fun r17 =>
    (oneP r17.vs).bind fun p18 =>
    p18.sc?.bind fun c19 =>
    (intAt .i64 [c19] 0).bind fun n20 =>
    cond (decide (n20 ≥ 0))
    (some ⟨1, [.sc (.int .i64 (-1))], r17.H⟩)
    (C (.loop F.sSliceCount 0) [.sc (.sl x1), .sc (.sl x5), .sc (.sl x18), .sc (.int .i64 x19), .sc (.int .i64 (IntKind.wrap .i64 (x20 + 1)))] r17.H)))
  (some ⟨2, [], H⟩) := by kernel_rfl
theorem e_sSliceCount (C : Oracle) (a0_0 a0_1 a0_2 : Int) (a0_3 a0_4 a1 : Sl) (H : AH) : (procM P T C (.fn F.sSliceCount) [.agg [.int .i64 a0_0, .int .i64 a0_1, .int .i64 a0_2, .sl a0_3, .sl a0_4], .sc (.sl a1)] H).run =
  (C (.fn F.sNetworkOk) [.agg [.int .i64 a0_0, .int .i64 a0_1, .int .i64 a0_2, .sl a0_3, .sl a0_4]] H).bind fun r1 =>
  (oneP r1.vs).bind fun p2 =>
  p2.sc?.bind fun c3 =>
  (boolAt [c3] 0).bind fun b4 =>
  cond (!b4)
  (some ⟨1, [.sc (.int .i64 (-1))], r1.H⟩)
  (cond (decide ((a1.n : Int) > 4))
   (some ⟨1, [.sc (.int .i64 (-1))], r1.H⟩)
   ((C (.fn F.sl21Closed) [.agg [.int .i64 a0_0, .int .i64 a0_1, .int .i64 a0_2, .sl a0_3, .sl a0_4]] r1.H).bind fun r5 =>
    (oneP r5.vs).bind fun p6 =>
    p6.sc?.bind fun c7 =>
    (slAt [c7] 0).bind fun s8 =>
    (C (.loop F.sSliceCount 0) [.sc (.sl a1), .sc (.sl s8), .sc (.sl a1), .sc (.int .i64 (a1.n : Int)), .sc (.int .i64 0)] r5.H).bind fun r21 =>
    cond (Nat.beq r21.e 1)
    ((nthP r21.vs 0).bind fun p22 =>
     p22.sc?.bind fun c23 =>
     (intAt .i64 [c23] 0).bind fun n24 =>
     some ⟨1, [.sc (.int .i64 n24)], r21.H⟩)
    (cond (Nat.beq r21.e 2)
     ((C (.fn F.sl12Dims) [.sc (.sl a0_3), .sc (.sl a1)] r21.H).bind fun r25 =>
      (oneP r25.vs).bind fun p26 =>
      p26.sc?.bind fun c27 =>
      (slAt [c27] 0).bind fun s28 =>
      (C (.fn F.sl05Product) [.sc (.sl s28), .sc (.int .i64 65536)] r25.H).bind fun r29 =>
      (oneP r29.vs).bind fun p30 =>
      p30.sc?.bind fun c31 =>
      (intAt .i64 [c31] 0).bind fun n32 =>
      some ⟨1, [.sc (.int .i64 n32)], r29.H⟩)
     (none)))) := by kernel_rfl
/- loop.example/g03211/laws.toTensorS -/
theorem e_wtoTensorS_0 (C : Oracle) (x0 x3 : Sl) (x4 : Int) (H : AH) : (procM P T C (.loop F.wtoTensorS 0) [.sc (.sl x0), .sc (.sl x3), .sc (.int .i64 x4)] H).run =
  cond (decide (x4 < (x0.n : Int)))
  ((ixA x0 x4 3).bind fun o2 =>
   (rdB H x0.b).bind fun c3 =>
   (slAt c3 o2).bind fun s4 =>
   (slAt c3 (o2 + 1)).bind fun s5 =>
   (slAt c3 (o2 + 1 + 1)).bind fun s6 =>
   (C (.fn F.wtoTensor) [.agg [.sl s4, .sl s5, .sl s6]] H).bind fun r7 =>
   (oneP r7.vs).bind fun p8 =>
   p8.agg?.bind fun l9 =>
   cond (decide (l9.length = 3))
   ((slAt l9 0).bind fun s10 =>
    (slAt l9 1).bind fun s11 =>
    (slAt l9 2).bind fun s12 =>
    (ixA x3 x4 3).bind fun o13 =>
    (putR r7.H x3.b o13 [.sl s10, .sl s11, .sl s12]).bind fun H14 =>
    C (.loop F.wtoTensorS 0) [.sc (.sl x0), .sc (.sl x3), .sc (.int .i64 (IntKind.wrap .i64 (x4 + 1)))] H14)
   (none))
  (some ⟨2, [], H⟩) := by kernel_rfl
theorem e_wtoTensorS (C : Oracle) (a0 : Sl) (H : AH) : (procM P T C (.fn F.wtoTensorS) [.sc (.sl a0)] H).run =
  (mkB H 3 72 [.sl ⟨0, 0, 0, 0, true⟩, .sl ⟨0, 0, 0, 0, true⟩, .sl ⟨0, 0, 0, 0, true⟩] (a0.n : Int) (a0.n : Int)).bind fun m1 =>
  (C (.loop F.wtoTensorS 0) [.sc (.sl a0), .sc (.sl m1.1), .sc (.int .i64 0)] m1.2).bind fun r15 =>
  cond (Nat.beq r15.e 2)
  (some ⟨1, [.sc (.sl m1.1)], r15.H⟩)
  (none) := by kernel_rfl
/- loop.example/g03211/laws.toStep -/
theorem e_wtoStep (C : Oracle) (a0_0 a0_1 : Int) (H : AH) : (procM P T C (.fn F.wtoStep) [.agg [.int .i64 a0_0, .int .i64 a0_1]] H).run =
  some ⟨1, [.agg [.int .i64 a0_0, .int .i64 a0_1]], H⟩ := by kernel_rfl
/- loop.example/g03211/impl.startState -/
theorem e_istartState_0 (C : Oracle) (x5b x5o : Nat) (x23 : Sl) (x24 x25 : Int) (H : AH) : (procM P T C (.loop F.istartState 0) [.sc (.hp x5b x5o), .sc (.sl x23), .sc (.int .i64 x24), .sc (.int .i64 x25)] H).run =
  cond (decide (x25 < x24))
  ((ixA x23 x25 3).bind fun o9 =>
   (rdB H x23.b).bind fun c10 =>
   (slAt c10 o9).bind fun s11 =>
   (slAt c10 (o9 + 1)).bind fun s12 =>
   (slAt c10 (o9 + 1 + 1)).bind fun s13 =>
   cond (decide (x5b < H.length))
   ((rdB ((reserve H 1).set (H.length + 0) deadB) x5b).bind fun c14 =>
    (slAt c14 (x5o + 101)).bind fun s15 =>
    (C (.fn F.icopyInts) [.sc (.sl s11)] (reserve H 1)).bind fun r16 =>
    (oneP r16.vs).bind fun p17 =>
    p17.sc?.bind fun c18 =>
    (slAt [c18] 0).bind fun s19 =>
    cond (decide (r16.H.take (H.length) = (reserve H 1).take (H.length)))
    ((newAt r16.H (H.length + 0) 2 [.int .i64 x25, .sl s19]).bind fun h20 =>
     (rng h20.2 h20.1 0 (1 * 2)).bind fun l21 =>
     (appB h20.2 2 32 s15 l21 1).bind fun m22 =>
     (putR m22.2 x5b (x5o + 101) [.sl m22.1]).bind fun H23 =>
     C (.loop F.istartState 0) [.sc (.hp x5b x5o), .sc (.sl x23), .sc (.int .i64 x24), .sc (.int .i64 (IntKind.wrap .i64 (x25 + 1)))] H23)
    (none))
   (none))
  (some ⟨2, [], H⟩) := by kernel_rfl
theorem e_istartState (C : Oracle) (a0_0 a0_1 a0_2 : Int) (a0_3 a0_4 : Sl) (H : AH) : (procM P T C (.fn F.istartState) [.agg [.int .i64 a0_0, .int .i64 a0_1, .int .i64 a0_2, .sl a0_3, .sl a0_4]] H).run =
  (C (.fn F.idimsOf) [.sc (.sl a0_3)] H).bind fun r1 =>
  (lenP r1.vs 2).bind fun _ =>
  (nthP r1.vs 0).bind fun p2 =>
  p2.agg?.bind fun l3 =>
  cond (decide (l3.length = 100))
  ((nthP r1.vs 1).bind fun p4 =>
   p4.sc?.bind fun c5 =>
   (boolAt [c5] 0).bind fun b6 =>
   cond (Nat.beq l3.length 100)
   (cond (decide (0 + l3.length ≤ (zc P Y.t100_int).length))
    (cond (decide (100 ≤ (setAll (zc P Y.t100_int) 0 l3).length))
     ((fillB [(0, 100), (100, 1), (101, 1), (102, 1)] (zc P Y.timpl_orderState) [(0, .agg (((setAll (zc P Y.t100_int) 0 l3).drop 0).take 100)), (1, .sc (.sl a0_4)), (3, .sc (.int .i64 (a0_3.n : Int)))]).bind fun l7 =>
      (newB r1.H 103 l7).bind fun h8 =>
      (C (.loop F.istartState 0) [.sc (.hp h8.1 0), .sc (.sl a0_3), .sc (.int .i64 (a0_3.n : Int)), .sc (.int .i64 0)] h8.2).bind fun r24 =>
      cond (Nat.beq r24.e 2)
      (some ⟨1, [.sc (.hp h8.1 0)], r24.H⟩)
      (none))
     (none))
    (none))
   (none))
  (none) := by kernel_rfl
/- (*loop.example/g03211/impl.orderState).follow -/
theorem e_x__impl_orderState__follow (C : Oracle) (a0b a0o : Nat) (a1_0 a1_1 : Int) (H : AH) : (procM P T C (.fn F.x__impl_orderState__follow) [.sc (.hp a0b a0o), .agg [.int .i64 a1_0, .int .i64 a1_1]] H).run =
  (C (.fn F.x__impl_orderState__place) [.sc (.hp a0b a0o), .sc (.int .i64 a1_0)] H).bind fun r1 =>
  (oneP r1.vs).bind fun p2 =>
  p2.sc?.bind fun c3 =>
  (intAt .i64 [c3] 0).bind fun n4 =>
  (C (.fn F.x__impl_orderState__place) [.sc (.hp a0b a0o), .sc (.int .i64 a1_1)] r1.H).bind fun r5 =>
  (oneP r5.vs).bind fun p6 =>
  p6.sc?.bind fun c7 =>
  (intAt .i64 [c7] 0).bind fun n8 =>
  cond (decide (n4 < 0))
  (some ⟨1, [.sc (.bool false)], r5.H⟩)
  (cond (decide (n8 < 0))
   (some ⟨1, [.sc (.bool false)], r5.H⟩)
   (cond (decide (a1_0 ≥ a1_1))
    (some ⟨1, [.sc (.bool false)], r5.H⟩)
    ((C (.fn F.x__impl_orderState__contract) [.sc (.hp a0b a0o), .sc (.int .i64 n4), .sc (.int .i64 n8)] r5.H).bind fun r9 =>
     (oneP r9.vs).bind fun p10 =>
     p10.agg?.bind fun l11 =>
     cond (decide (l11.length = 2))
     ((intAt .i64 l11 0).bind fun n12 =>
      (intAt .i64 l11 1).bind fun n13 =>
      some ⟨1, [.sc (.bool true)], r9.H⟩)
     (none)))) := by kernel_rfl
/- loop.example/g03211/impl.SliceCount -/
theorem e_iSliceCount_0 (C : Oracle) (x1 x5 x21 : Sl) (x22 x23 : Int) (H : AH) : (procM P T C (.loop F.iSliceCount 0) [.sc (.sl x1), .sc (.sl x5), .sc (.sl x21), .sc (.int .i64 x22), .sc (.int .i64 x23)] H).run =
  cond (decide (x23 < x22))
  ((ixA x21 x23 1).bind fun o9 =>
   (rdB H x21.b).bind fun c10 =>
   (intAt .i64 c10 o9).bind fun n11 =>
   (C (.fn F.ihasInt) [.sc (.sl x5), .sc (.int .i64 n11)] H).bind fun r12 =>
   (oneP r12.vs).bind fun p13 =>
   p13.sc?.bind fun c14 =>
   (boolAt [c14] 0).bind fun b15 =>
   cond (!b15)
   (some ⟨1, [.sc (.int .i64 (-1))], r12.H⟩)
   ((slB x1 none (some x23) none 1).bind fun s16 =>
    (C (.fn F.ihasInt) [.sc (.sl s16), .sc (.int .i64 n11)] r12.H).bind fun r17 =>
    (oneP r17.vs).bind fun p18 =>
    p18.sc?.bind fun c19 =>
    (boolAt [c19] 0).bind fun b20 =>
    cond b20
    (some ⟨1, [.sc (.int .i64 (-1))], r17.H⟩)
    (C (.loop F.iSliceCount 0) [.sc (.sl x1), .sc (.sl x5), .sc (.sl x21), .sc (.int .i64 x22), .sc (.int .i64 (IntKind.wrap .i64 (x23 + 1)))] r17.H)))
  (some ⟨2, [], H⟩) := by kernel_rfl
theorem e_iSliceCount (C : Oracle) (a0_0 a0_1 a0_2 : Int) (a0_3 a0_4 a1 : Sl) (H : AH) : (procM P T C (.fn F.iSliceCount) [.agg [.int .i64 a0_0, .int .i64 a0_1, .int .i64 a0_2, .sl a0_3, .sl a0_4], .sc (.sl a1)] H).run =
  (C (.fn F.iNetworkOk) [.agg [.int .i64 a0_0, .int .i64 a0_1, .int .i64 a0_2, .sl a0_3, .sl a0_4]] H).bind fun r1 =>
  (oneP r1.vs).bind fun p2 =>
  p2.sc?.bind fun c3 =>
  (boolAt [c3] 0).bind fun b4 =>
  cond (!b4)
  (some ⟨1, [.sc (.int .i64 (-1))], r1.H⟩)
  (cond (decide ((a1.n : Int) > 4))
   (some ⟨1, [.sc (.int .i64 (-1))], r1.H⟩)
   ((C (.fn F.iClosedLabels) [.agg [.int .i64 a0_0, .int .i64 a0_1, .int .i64 a0_2, .sl a0_3, .sl a0_4]] r1.H).bind fun r5 =>
    (oneP r5.vs).bind fun p6 =>
    p6.sc?.bind fun c7 =>
    (slAt [c7] 0).bind fun s8 =>
    (C (.loop F.iSliceCount 0) [.sc (.sl a1), .sc (.sl s8), .sc (.sl a1), .sc (.int .i64 (a1.n : Int)), .sc (.int .i64 0)] r5.H).bind fun r21 =>
    cond (Nat.beq r21.e 1)
    ((nthP r21.vs 0).bind fun p22 =>
     p22.sc?.bind fun c23 =>
     (intAt .i64 [c23] 0).bind fun n24 =>
     some ⟨1, [.sc (.int .i64 n24)], r21.H⟩)
    (cond (Nat.beq r21.e 2)
     ((C (.fn F.idimsOf) [.sc (.sl a0_3)] r21.H).bind fun r25 =>
      (lenP r25.vs 2).bind fun _ =>
      (nthP r25.vs 0).bind fun p26 =>
      p26.agg?.bind fun l27 =>
      cond (decide (l27.length = 100))
      ((nthP r25.vs 1).bind fun p28 =>
       p28.sc?.bind fun c29 =>
       (boolAt [c29] 0).bind fun b30 =>
       cond (Nat.beq l27.length 100)
       (cond (decide (0 + l27.length ≤ (zc P Y.t100_int).length))
        (cond (decide (100 ≤ (setAll (zc P Y.t100_int) 0 l27).length))
         ((C (.fn F.iaxesOf) [.agg (((setAll (zc P Y.t100_int) 0 l27).drop 0).take 100), .sc (.sl a1)] r25.H).bind fun r31 =>
          (oneP r31.vs).bind fun p32 =>
          p32.agg?.bind fun l33 =>
          cond (decide (l33.length = 3))
          ((slAt l33 0).bind fun s34 =>
           (slAt l33 1).bind fun s35 =>
           (slAt l33 2).bind fun s36 =>
           (C (.fn F.iproductOf) [.sc (.sl s35)] r31.H).bind fun r37 =>
           (oneP r37.vs).bind fun p38 =>
           p38.sc?.bind fun c39 =>
           (intAt .i64 [c39] 0).bind fun n40 =>
           cond (decide (n40 > 65536))
           (some ⟨1, [.sc (.int .i64 (-1))], r37.H⟩)
           (some ⟨1, [.sc (.int .i64 n40)], r37.H⟩))
          (none))
         (none))
        (none))
       (none))
      (none))
     (none)))) := by kernel_rfl
/- loop.example/g03211/impl.openAxes -/
theorem e_iopenAxes (C : Oracle) (a0_0 a0_1 a0_2 : Int) (a0_3 a0_4 : Sl) (H : AH) : (procM P T C (.fn F.iopenAxes) [.agg [.int .i64 a0_0, .int .i64 a0_1, .int .i64 a0_2, .sl a0_3, .sl a0_4]] H).run =
  (C (.fn F.idimsOf) [.sc (.sl a0_3)] H).bind fun r1 =>
  (lenP r1.vs 2).bind fun _ =>
  (nthP r1.vs 0).bind fun p2 =>
  p2.agg?.bind fun l3 =>
  cond (decide (l3.length = 100))
  ((nthP r1.vs 1).bind fun p4 =>
   p4.sc?.bind fun c5 =>
   (boolAt [c5] 0).bind fun b6 =>
   cond (Nat.beq l3.length 100)
   (cond (decide (0 + l3.length ≤ (zc P Y.t100_int).length))
    (cond (decide (100 ≤ (setAll (zc P Y.t100_int) 0 l3).length))
     ((C (.fn F.iaxesOf) [.agg (((setAll (zc P Y.t100_int) 0 l3).drop 0).take 100), .sc (.sl a0_4)] r1.H).bind fun r7 =>
      (oneP r7.vs).bind fun p8 =>
      p8.agg?.bind fun l9 =>
      cond (decide (l9.length = 3))
      ((slAt l9 0).bind fun s10 =>
       (slAt l9 1).bind fun s11 =>
       (slAt l9 2).bind fun s12 =>
       some ⟨1, [.agg [.sl s10, .sl s11, .sl s12]], r7.H⟩)
      (none))
     (none))
    (none))
   (none))
  (none) := by kernel_rfl
/- loop.example/g03211/laws.eqStep -/
theorem e_weqStep (C : Oracle) (a0_0 a0_1 a1_0 a1_1 : Int) (H : AH) : (procM P T C (.fn F.weqStep) [.agg [.int .i64 a0_0, .int .i64 a0_1], .agg [.int .i64 a1_0, .int .i64 a1_1]] H).run =
  cond (a0_0 != a1_0)
  (some ⟨1, [.sc (.bool false)], H⟩)
  (cond (a0_1 != a1_1)
   (some ⟨1, [.sc (.bool false)], H⟩)
   (some ⟨1, [.sc (.bool true)], H⟩)) := by kernel_rfl
/- loop.example/g03211/spec.l40Matrix -/
theorem e_sl40Matrix (C : Oracle) (a0 a1 : Int) (H : AH) : (procM P T C (.fn F.sl40Matrix) [.sc (.int .i64 a0), .sc (.int .i64 a1)] H).run =
  (newB H 1 [.int .i64 0, .int .i64 0, .int .i64 0, .int .i64 0]).bind fun h1 =>
  (newB h1.2 1 [.int .i64 1, .int .i64 0, .int .i64 0, .int .i64 0]).bind fun h2 =>
  (newB h2.2 1 [.int .i64 (IntKind.wrap .i64 (a0 - 1)), .int .i64 0, .int .i64 0, .int .i64 0]).bind fun h3 =>
  (newB h3.2 1 [.int .i64 0, .int .i64 (IntKind.wrap .i64 (Int.tdiv (IntKind.wrap .i64 (a0 + 1)) 2)), .int .i64 0, .int .i64 (IntKind.wrap .i64 (a0 - (IntKind.wrap .i64 (Int.tdiv (IntKind.wrap .i64 (a0 + 1)) 2))))]).bind fun h4 =>
  cond (a1 == 1)
  ((newB h4.2 1 [.sl ⟨h1.1, 0, 4, 4, true⟩, .sl ⟨h2.1, 0, 4, 4, true⟩, .sl ⟨h2.1, 0, 4, 4, true⟩, .sl ⟨h1.1, 0, 4, 4, true⟩]).bind fun h5 =>
   some ⟨1, [.sc (.sl ⟨h5.1, 0, 4, 4, true⟩)], h5.2⟩)
  (cond (a1 == 5)
   ((newB h4.2 1 [.int .i64 0, .int .i64 (IntKind.wrap .i64 (a0 - (IntKind.wrap .i64 (Int.tdiv (IntKind.wrap .i64 (a0 + 1)) 2)))), .int .i64 0, .int .i64 (IntKind.wrap .i64 (Int.tdiv (IntKind.wrap .i64 (a0 + 1)) 2))]).bind fun h6 =>
    (newB h6.2 1 [.sl ⟨h4.1, 0, 4, 4, true⟩, .sl ⟨h4.1, 0, 4, 4, true⟩, .sl ⟨h4.1, 0, 4, 4, true⟩, .sl ⟨h6.1, 0, 4, 4, true⟩]).bind fun h7 =>
    some ⟨1, [.sc (.sl ⟨h7.1, 0, 4, 4, true⟩)], h7.2⟩)
   (cond (a1 == 8)
    ((newB h4.2 1 [.sl ⟨h2.1, 0, 4, 4, true⟩, .sl ⟨h1.1, 0, 4, 4, true⟩, .sl ⟨h1.1, 0, 4, 4, true⟩, .sl ⟨h1.1, 0, 4, 4, true⟩, .sl ⟨h1.1, 0, 4, 4, true⟩, .sl ⟨h2.1, 0, 4, 4, true⟩, .sl ⟨h1.1, 0, 4, 4, true⟩, .sl ⟨h1.1, 0, 4, 4, true⟩, .sl ⟨h1.1, 0, 4, 4, true⟩, .sl ⟨h1.1, 0, 4, 4, true⟩, .sl ⟨h1.1, 0, 4, 4, true⟩, .sl ⟨h2.1, 0, 4, 4, true⟩, .sl ⟨h1.1, 0, 4, 4, true⟩, .sl ⟨h1.1, 0, 4, 4, true⟩, .sl ⟨h2.1, 0, 4, 4, true⟩, .sl ⟨h1.1, 0, 4, 4, true⟩]).bind fun h8 =>
     some ⟨1, [.sc (.sl ⟨h8.1, 0, 16, 16, true⟩)], h8.2⟩)
    (cond (a1 == 9)
     ((newB h4.2 1 [.sl ⟨h2.1, 0, 4, 4, true⟩, .sl ⟨h1.1, 0, 4, 4, true⟩, .sl ⟨h1.1, 0, 4, 4, true⟩, .sl ⟨h1.1, 0, 4, 4, true⟩, .sl ⟨h1.1, 0, 4, 4, true⟩, .sl ⟨h2.1, 0, 4, 4, true⟩, .sl ⟨h1.1, 0, 4, 4, true⟩, .sl ⟨h1.1, 0, 4, 4, true⟩, .sl ⟨h1.1, 0, 4, 4, true⟩, .sl ⟨h1.1, 0, 4, 4, true⟩, .sl ⟨h2.1, 0, 4, 4, true⟩, .sl ⟨h1.1, 0, 4, 4, true⟩, .sl ⟨h1.1, 0, 4, 4, true⟩, .sl ⟨h1.1, 0, 4, 4, true⟩, .sl ⟨h1.1, 0, 4, 4, true⟩, .sl ⟨h3.1, 0, 4, 4, true⟩]).bind fun h9 =>
      some ⟨1, [.sc (.sl ⟨h9.1, 0, 16, 16, true⟩)], h9.2⟩)
     (cond (a1 == 2)
      ((newB h4.2 1 [.sl ⟨h2.1, 0, 4, 4, true⟩, .sl ⟨h1.1, 0, 4, 4, true⟩, .sl ⟨h1.1, 0, 4, 4, true⟩, .sl ⟨h3.1, 0, 4, 4, true⟩]).bind fun h14 =>
       some ⟨1, [.sc (.sl ⟨h14.1, 0, 4, 4, true⟩)], h14.2⟩)
      (cond (a1 == 3)
       ((newB h4.2 1 [.int .i64 0, .int .i64 0, .int .i64 1, .int .i64 0]).bind fun h10 =>
        (newB h10.2 1 [.sl ⟨h2.1, 0, 4, 4, true⟩, .sl ⟨h1.1, 0, 4, 4, true⟩, .sl ⟨h1.1, 0, 4, 4, true⟩, .sl ⟨h10.1, 0, 4, 4, true⟩]).bind fun h15 =>
        some ⟨1, [.sc (.sl ⟨h15.1, 0, 4, 4, true⟩)], h15.2⟩)
       (cond (a1 == 4)
        ((newB h4.2 1 [.int .i64 0, .int .i64 1, .int .i64 0, .int .i64 0]).bind fun h11 =>
         (newB h11.2 1 [.sl ⟨h2.1, 0, 4, 4, true⟩, .sl ⟨h1.1, 0, 4, 4, true⟩, .sl ⟨h1.1, 0, 4, 4, true⟩, .sl ⟨h11.1, 0, 4, 4, true⟩]).bind fun h16 =>
         some ⟨1, [.sc (.sl ⟨h16.1, 0, 4, 4, true⟩)], h16.2⟩)
        (cond (a1 == 6)
         ((newB h4.2 1 [.int .i64 0, .int .i64 0, .int .i64 (IntKind.wrap .i64 (a0 - 1)), .int .i64 0]).bind fun h12 =>
          (newB h12.2 1 [.sl ⟨h2.1, 0, 4, 4, true⟩, .sl ⟨h1.1, 0, 4, 4, true⟩, .sl ⟨h1.1, 0, 4, 4, true⟩, .sl ⟨h12.1, 0, 4, 4, true⟩]).bind fun h17 =>
          some ⟨1, [.sc (.sl ⟨h17.1, 0, 4, 4, true⟩)], h17.2⟩)
         (cond (a1 == 7)
          ((newB h4.2 1 [.int .i64 0, .int .i64 0, .int .i64 0, .int .i64 (IntKind.wrap .i64 (a0 - 1))]).bind fun h13 =>
           (newB h13.2 1 [.sl ⟨h2.1, 0, 4, 4, true⟩, .sl ⟨h1.1, 0, 4, 4, true⟩, .sl ⟨h1.1, 0, 4, 4, true⟩, .sl ⟨h13.1, 0, 4, 4, true⟩]).bind fun h18 =>
           some ⟨1, [.sc (.sl ⟨h18.1, 0, 4, 4, true⟩)], h18.2⟩)
          ((newB h4.2 1 [.sl ⟨h2.1, 0, 4, 4, true⟩, .sl ⟨h1.1, 0, 4, 4, true⟩, .sl ⟨h1.1, 0, 4, 4, true⟩, .sl ⟨h2.1, 0, 4, 4, true⟩]).bind fun h19 =>
           some ⟨1, [.sc (.sl ⟨h19.1, 0, 4, 4, true⟩)], h19.2⟩))))))))) := by kernel_rfl
/- loop.example/g03211/laws.toGate -/
theorem e_wtoGate (C : Oracle) (a0_0 a0_1 a0_2 : Int) (H : AH) : (procM P T C (.fn F.wtoGate) [.agg [.int .i64 a0_0, .int .i64 a0_1, .int .i64 a0_2]] H).run =
  some ⟨1, [.agg [.int .i64 a0_0, .int .i64 a0_1, .int .i64 a0_2]], H⟩ := by kernel_rfl
/- loop.example/g03211/laws.eqGate -/
theorem e_weqGate (C : Oracle) (a0_0 a0_1 a0_2 a1_0 a1_1 a1_2 : Int) (H : AH) : (procM P T C (.fn F.weqGate) [.agg [.int .i64 a0_0, .int .i64 a0_1, .int .i64 a0_2], .agg [.int .i64 a1_0, .int .i64 a1_1, .int .i64 a1_2]] H).run =
  cond (a0_0 != a1_0)
  (some ⟨1, [.sc (.bool false)], H⟩)
  (cond (a0_1 != a1_1)
   (some ⟨1, [.sc (.bool false)], H⟩)
   (cond (a0_2 != a1_2)
    (some ⟨1, [.sc (.bool false)], H⟩)
    (some ⟨1, [.sc (.bool true)], H⟩))) := by kernel_rfl
/- loop.example/g03211/spec.l05Axes -/
theorem e_sl05Axes_0 (C : Oracle) (x0 x1 x17 : Sl) (x18 x19 : Int) (H : AH) : (procM P T C (.loop F.sl05Axes 0) [.sc (.sl x0), .sc (.sl x1), .sc (.sl x17), .sc (.int .i64 x18), .sc (.int .i64 x19)] H).run =
  cond (decide (x19 < x18))
  ((ixA x17 x19 1).bind fun o1 =>
   (rdB H x17.b).bind fun c2 =>
   (intAt .i64 c2 o1).bind fun n3 =>
   (C (.fn F.sl01In) [.sc (.int .i64 n3), .sc (.int .i64 0), .sc (.int .i64 99)] H).bind fun r4 =>
   (oneP r4.vs).bind fun p5 =>
   p5.sc?.bind fun c6 =>
   (boolAt [c6] 0).bind fun b7 =>
   cond (!b7)
   (some ⟨1, [.sc (.bool false)], r4.H⟩)
   ((ixA x1 x19 1).bind fun o8 =>
    (rdB r4.H x1.b).bind fun c9 =>
    (intAt .i64 c9 o8).bind fun n10 =>
    (C (.fn F.sl01In) [.sc (.int .i64 n10), .sc (.int .i64 1), .sc (.int .i64 8)] r4.H).bind fun r11 =>
    (oneP r11.vs).bind fun p12 =>
    p12.sc?.bind fun c13 =>
    (boolAt [c13] 0).bind fun b14 =>
    cond (!b14)
    (some ⟨1, [.sc (.bool false)], r11.H⟩)
    ((slB x0 none (some x19) none 1).bind fun s15 =>
     (C (.fn F.sl05Find) [.sc (.sl s15), .sc (.int .i64 n3)] r11.H).bind fun r16 =>
     (oneP r16.vs).bind fun p17 =>
     p17.sc?.bind fun c18 =>
     (intAt .i64 [c18] 0).bind fun n19 =>
     cond (decide (n19 ≥ 0))
     (some ⟨1, [.sc (.bool false)], r16.H⟩)
     (C (.loop F.sl05Axes 0) [.sc (.sl x0), .sc (.sl x1), .sc (.sl x17), .sc (.int .i64 x18), .sc (.int .i64 (IntKind.wrap .i64 (x19 + 1)))] r16.H))))
  (some ⟨2, [], H⟩) := by kernel_rfl
theorem e_sl05Axes (C : Oracle) (a0 a1 : Sl) (H : AH) : (procM P T C (.fn F.sl05Axes) [.sc (.sl a0), .sc (.sl a1)] H).run =
  cond (decide ((a0.n : Int) > 12))
  (some ⟨1, [.sc (.bool false)], H⟩)
  (cond ((a0.n : Int) != (a1.n : Int))
   (some ⟨1, [.sc (.bool false)], H⟩)
   ((C (.loop F.sl05Axes 0) [.sc (.sl a0), .sc (.sl a1), .sc (.sl a0), .sc (.int .i64 (a0.n : Int)), .sc (.int .i64 0)] H).bind fun r20 =>
    cond (Nat.beq r20.e 1)
    ((nthP r20.vs 0).bind fun p21 =>
     p21.sc?.bind fun c22 =>
     (boolAt [c22] 0).bind fun b23 =>
     some ⟨1, [.sc (.bool b23)], r20.H⟩)
    (cond (Nat.beq r20.e 2)
     (some ⟨1, [.sc (.bool true)], r20.H⟩)
     (none)))) := by kernel_rfl
/- loop.example/g03211/impl.inRing -/
theorem e_iinRing_0 (C : Oracle) (x5 : Int) (x10 : Sl) (x11 x12 : Int) (H : AH) : (procM P T C (.loop F.iinRing 0) [.sc (.int .i64 x5), .sc (.sl x10), .sc (.int .i64 x11), .sc (.int .i64 x12)] H).run =
  cond (decide (x12 < x11))
  ((ixA x10 x12 1).bind fun o5 =>
   (rdB H x10.b).bind fun c6 =>
   (intAt .i64 c6 o5).bind fun n7 =>
   cond (decide (n7 < 0))
   (some ⟨1, [.sc (.bool false)], H⟩)
   (cond (decide (n7 > x5))
    (some ⟨1, [.sc (.bool false)], H⟩)
    (C (.loop F.iinRing 0) [.sc (.int .i64 x5), .sc (.sl x10), .sc (.int .i64 x11), .sc (.int .i64 (IntKind.wrap .i64 (x12 + 1)))] H)))
  (some ⟨2, [], H⟩) := by kernel_rfl
theorem e_iinRing (C : Oracle) (a0_0 a0_1 a0_2 : Int) (a1 : Sl) (H : AH) : (procM P T C (.fn F.iinRing) [.agg [.int .i64 a0_0, .int .i64 a0_1, .int .i64 a0_2], .sc (.sl a1)] H).run =
  (C (.fn F.irawTop) [.agg [.int .i64 a0_0, .int .i64 a0_1, .int .i64 a0_2]] H).bind fun r1 =>
  (oneP r1.vs).bind fun p2 =>
  p2.sc?.bind fun c3 =>
  (intAt .i64 [c3] 0).bind fun n4 =>
  (C (.loop F.iinRing 0) [.sc (.int .i64 n4), .sc (.sl a1), .sc (.int .i64 (a1.n : Int)), .sc (.int .i64 0)] r1.H).bind fun r8 =>
  cond (Nat.beq r8.e 1)
  ((nthP r8.vs 0).bind fun p9 =>
   p9.sc?.bind fun c10 =>
   (boolAt [c10] 0).bind fun b11 =>
   some ⟨1, [.sc (.bool b11)], r8.H⟩)
  (cond (Nat.beq r8.e 2)
   (some ⟨1, [.sc (.bool true)], r8.H⟩)
   (none)) := by kernel_rfl
/- loop.example/g03211/spec.l21Closed -/
theorem e_sl21Closed_0 (C : Oracle) (x3 x9 : Sl) (x10 x11 y1_0 y1_1 y1_2 : Int) (y1_3 y1_4 : Sl) (H : AH) : (procM P T C (.loop F.sl21Closed 0) [.sc (.sl x3), .sc (.sl x9), .sc (.int .i64 x10), .sc (.int .i64 x11), .agg [.int .i64 y1_0, .int .i64 y1_1, .int .i64 y1_2, .sl y1_3, .sl y1_4]] H).run =
  cond (decide (x11 < x10))
  ((ixA x9 x11 1).bind fun o6 =>
   (rdB H x9.b).bind fun c7 =>
   (intAt .i64 c7 o6).bind fun n8 =>
   (C (.fn F.sl05Find) [.sc (.sl y1_4), .sc (.int .i64 n8)] H).bind fun r9 =>
   (oneP r9.vs).bind fun p10 =>
   p10.sc?.bind fun c11 =>
   (intAt .i64 [c11] 0).bind fun n12 =>
   cond (decide (n12 < 0))
   ((newB r9.H 1 [.int .i64 n8]).bind fun h13 =>
    (rng h13.2 h13.1 0 (1 * 1)).bind fun l14 =>
    (appB h13.2 1 8 x3 l14 1).bind fun m15 =>
    C (.loop F.sl21Closed 0) [.sc (.sl m15.1), .sc (.sl x9), .sc (.int .i64 x10), .sc (.int .i64 (IntKind.wrap .i64 (x11 + 1))), .agg [.int .i64 y1_0, .int .i64 y1_1, .int .i64 y1_2, .sl y1_3, .sl y1_4]] m15.2)
   (C (.loop F.sl21Closed 0) [.sc (.sl x3), .sc (.sl x9), .sc (.int .i64 x10), .sc (.int .i64 (IntKind.wrap .i64 (x11 + 1))), .agg [.int .i64 y1_0, .int .i64 y1_1, .int .i64 y1_2, .sl y1_3, .sl y1_4]] r9.H))
  (some ⟨2, [.sc (.sl x3)], H⟩) := by kernel_rfl
theorem e_sl21Closed (C : Oracle) (a0_0 a0_1 a0_2 : Int) (a0_3 a0_4 : Sl) (H : AH) : (procM P T C (.fn F.sl21Closed) [.agg [.int .i64 a0_0, .int .i64 a0_1, .int .i64 a0_2, .sl a0_3, .sl a0_4]] H).run =
  (newB H 1 []).bind fun h1 =>
  (C (.fn F.sl12Labels) [.sc (.sl a0_3)] h1.2).bind fun r2 =>
  (oneP r2.vs).bind fun p3 =>
  p3.sc?.bind fun c4 =>
  (slAt [c4] 0).bind fun s5 =>
  (C (.loop F.sl21Closed 0) [.sc (.sl ⟨h1.1, 0, 0, 0, true⟩), .sc (.sl s5), .sc (.int .i64 (s5.n : Int)), .sc (.int .i64 0), .agg [.int .i64 a0_0, .int .i64 a0_1, .int .i64 a0_2, .sl a0_3, .sl a0_4]] r2.H).bind fun r16 =>
  cond (Nat.beq r16.e 2)
  ((nthP r16.vs 0).bind fun p17 =>
   p17.sc?.bind fun c18 =>
   (slAt [c18] 0).bind fun s19 =>
   some ⟨1, [.sc (.sl s19)], r16.H⟩)
  (none) := by kernel_rfl
/- (*loop.example/g03211/impl.orderState).place -/
theorem e_x__impl_orderState__place_0 (C : Oracle) (x1 : Int) (x10 : Sl) (x11 x12 : Int) (H : AH) : (procM P T C (.loop F.x__impl_orderState__place 0) [.sc (.int .i64 x1), .sc (.sl x10), .sc (.int .i64 x11), .sc (.int .i64 x12)] H).run =
  cond (decide (x12 < x11))
  ((ixA x10 x12 2).bind fun o3 =>
   (rdB H x10.b).bind fun c4 =>
   (intAt .i64 c4 o3).bind fun n5 =>
   (slAt c4 (o3 + 1)).bind fun s6 =>
   cond (n5 == x1)
   (some ⟨1, [.sc (.int .i64 x12)], H⟩)
   (C (.loop F.x__impl_orderState__place 0) [.sc (.int .i64 x1), .sc (.sl x10), .sc (.int .i64 x11), .sc (.int .i64 (IntKind.wrap .i64 (x12 + 1)))] H))
  (some ⟨2, [], H⟩) := by kernel_rfl
theorem e_x__impl_orderState__place (C : Oracle) (a0b a0o : Nat) (a1 : Int) (H : AH) : (procM P T C (.fn F.x__impl_orderState__place) [.sc (.hp a0b a0o), .sc (.int .i64 a1)] H).run =
  (rdB H a0b).bind fun c1 =>
  (slAt c1 (a0o + 101)).bind fun s2 =>
  (C (.loop F.x__impl_orderState__place 0) [.sc (.int .i64 a1), .sc (.sl s2), .sc (.int .i64 (s2.n : Int)), .sc (.int .i64 0)] H).bind fun r7 =>
  cond (Nat.beq r7.e 1)
  ((nthP r7.vs 0).bind fun p8 =>
   p8.sc?.bind fun c9 =>
   (intAt .i64 [c9] 0).bind fun n10 =>
   some ⟨1, [.sc (.int .i64 n10)], r7.H⟩)
  (cond (Nat.beq r7.e 2)
   (some ⟨1, [.sc (.int .i64 (-1))], r7.H⟩)
   (none)) := by kernel_rfl
/- (*loop.example/g03211/impl.orderState).contract -/
theorem e_x__impl_orderState__contract_0 (C : Oracle) (x1 x2 : Int) (x9 x41 : Sl) (x42 x43 : Int) (H : AH) : (procM P T C (.loop F.x__impl_orderState__contract 0) [.sc (.int .i64 x1), .sc (.int .i64 x2), .sc (.sl x9), .sc (.sl x41), .sc (.int .i64 x42), .sc (.int .i64 x43)] H).run =
  cond (decide (x43 < x42))
  ((ixA x41 x43 2).bind fun o19 =>
   (rdB H x41.b).bind fun c20 =>
   (intAt .i64 c20 o19).bind fun n21 =>
   (slAt c20 (o19 + 1)).bind fun s22 =>
   ((cond (x43 != x1)
   (some ⟨0, [.sc (.bool (x43 != x2))], H⟩)
   (some ⟨0, [.sc (.bool false)], H⟩) : Option Out)).bind fun r23 =>
   cond (Nat.beq r23.e 0)
   ((nthP r23.vs 0).bind fun p24 =>
    p24.sc?.bind fun c25 =>
    (boolAt [c25] 0).bind fun b26 =>
    cond b26
    ((newB r23.H 2 [.int .i64 n21, .sl s22]).bind fun h27 =>
     (rng h27.2 h27.1 0 (1 * 2)).bind fun l28 =>
     (appB h27.2 2 32 x9 l28 1).bind fun m29 =>
     C (.loop F.x__impl_orderState__contract 0) [.sc (.int .i64 x1), .sc (.int .i64 x2), .sc (.sl m29.1), .sc (.sl x41), .sc (.int .i64 x42), .sc (.int .i64 (IntKind.wrap .i64 (x43 + 1)))] m29.2)
    (C (.loop F.x__impl_orderState__contract 0) [.sc (.int .i64 x1), .sc (.int .i64 x2), .sc (.sl x9), .sc (.sl x41), .sc (.int .i64 x42), .sc (.int .i64 (IntKind.wrap .i64 (x43 + 1)))] r23.H))
   (none))
  (some ⟨2, [.sc (.sl x9)], H⟩) := by kernel_rfl
theorem e_x__impl_orderState__contract (C : Oracle) (a0b a0o : Nat) (a1 a2 : Int) (H : AH) : (procM P T C (.fn F.x__impl_orderState__contract) [.sc (.hp a0b a0o), .sc (.int .i64 a1), .sc (.int .i64 a2)] H).run =
  (rdB H a0b).bind fun c1 =>
  (slAt c1 (a0o + 101)).bind fun s2 =>
  (ixA s2 a1 2).bind fun o3 =>
  (rdB H s2.b).bind fun c4 =>
  (intAt .i64 c4 (o3 + 0)).bind fun n5 =>
  (rdB H a0b).bind fun c6 =>
  (slAt c6 (a0o + 101)).bind fun s7 =>
  (ixA s7 a2 2).bind fun o8 =>
  (rdB H s7.b).bind fun c9 =>
  (intAt .i64 c9 (o8 + 0)).bind fun n10 =>
  cond (decide (a0b < H.length))
  ((rdB H a0b).bind fun c11 =>
   (intAt .i64 c11 (a0o + 102)).bind fun n12 =>
   (C (.fn F.x__impl_orderState__resultLabels) [.sc (.hp a0b a0o), .sc (.int .i64 a1), .sc (.int .i64 a2)] H).bind fun r13 =>
   (oneP r13.vs).bind fun p14 =>
   p14.sc?.bind fun c15 =>
   (slAt [c15] 0).bind fun s16 =>
   cond (decide (r13.H.take (H.length) = H.take (H.length)))
   ((rdB r13.H a0b).bind fun c17 =>
    (slAt c17 (a0o + 101)).bind fun s18 =>
    (C (.loop F.x__impl_orderState__contract 0) [.sc (.int .i64 a1), .sc (.int .i64 a2), .sc (.sl ⟨0, 0, 0, 0, true⟩), .sc (.sl s18), .sc (.int .i64 (s18.n : Int)), .sc (.int .i64 0)] r13.H).bind fun r30 =>
    cond (Nat.beq r30.e 2)
    ((nthP r30.vs 0).bind fun p31 =>
     p31.sc?.bind fun c32 =>
     (slAt [c32] 0).bind fun s33 =>
     (newB r30.H 2 [.int .i64 n12, .sl s16]).bind fun h34 =>
     (rng h34.2 h34.1 0 (1 * 2)).bind fun l35 =>
     (appB h34.2 2 32 s33 l35 1).bind fun m36 =>
     (putR m36.2 a0b (a0o + 101) [.sl m36.1]).bind fun H37 =>
     (rdB H37 a0b).bind fun c38 =>
     (intAt .i64 c38 (a0o + 102)).bind fun n39 =>
     (putR H37 a0b (a0o + 102) [.int .i64 (IntKind.wrap .i64 (n39 + 1))]).bind fun H40 =>
     some ⟨1, [.agg [.int .i64 n5, .int .i64 n10]], H40⟩)
    (none))
   (none))
  (none) := by kernel_rfl
/- loop.example/g03211/impl.ClosedLabels -/
theorem e_iClosedLabels_0 (C : Oracle) (x3 x7 : Sl) (x8 x9 y1_0 y1_1 y1_2 : Int) (y1_3 y1_4 : Sl) (H : AH) : (procM P T C (.loop F.iClosedLabels 0) [.sc (.sl x3), .sc (.sl x7), .sc (.int .i64 x8), .sc (.int .i64 x9), .agg [.int .i64 y1_0, .int .i64 y1_1, .int .i64 y1_2, .sl y1_3, .sl y1_4]] H).run =
  cond (decide (x9 < x8))
  ((ixA x7 x9 1).bind fun o5 =>
   (rdB H x7.b).bind fun c6 =>
   (intAt .i64 c6 o5).bind fun n7 =>
   (C (.fn F.ihasInt) [.sc (.sl y1_4), .sc (.int .i64 n7)] H).bind fun r8 =>
   (oneP r8.vs).bind fun p9 =>
   p9.sc?.bind fun c10 =>
   (boolAt [c10] 0).bind fun b11 =>
   cond (!b11)
   ((newB r8.H 1 [.int .i64 n7]).bind fun h12 =>
    (rng h12.2 h12.1 0 (1 * 1)).bind fun l13 =>
    (appB h12.2 1 8 x3 l13 1).bind fun m14 =>
    C (.loop F.iClosedLabels 0) [.sc (.sl m14.1), .sc (.sl x7), .sc (.int .i64 x8), .sc (.int .i64 (IntKind.wrap .i64 (x9 + 1))), .agg [.int .i64 y1_0, .int .i64 y1_1, .int .i64 y1_2, .sl y1_3, .sl y1_4]] m14.2)
   (C (.loop F.iClosedLabels 0) [.sc (.sl x3), .sc (.sl x7), .sc (.int .i64 x8), .sc (.int .i64 (IntKind.wrap .i64 (x9 + 1))), .agg [.int .i64 y1_0, .int .i64 y1_1, .int .i64 y1_2, .sl y1_3, .sl y1_4]] r8.H))
  (some ⟨2, [.sc (.sl x3)], H⟩) := by kernel_rfl
theorem e_iClosedLabels (C : Oracle) (a0_0 a0_1 a0_2 : Int) (a0_3 a0_4 : Sl) (H : AH) : (procM P T C (.fn F.iClosedLabels) [.agg [.int .i64 a0_0, .int .i64 a0_1, .int .i64 a0_2, .sl a0_3, .sl a0_4]] H).run =
  (C (.fn F.iLabelsOf) [.agg [.int .i64 a0_0, .int .i64 a0_1, .int .i64 a0_2, .sl a0_3, .sl a0_4]] H).bind fun r1 =>
  (oneP r1.vs).bind fun p2 =>
  p2.sc?.bind fun c3 =>
  (slAt [c3] 0).bind fun s4 =>
  (C (.loop F.iClosedLabels 0) [.sc (.sl ⟨0, 0, 0, 0, true⟩), .sc (.sl s4), .sc (.int .i64 (s4.n : Int)), .sc (.int .i64 0), .agg [.int .i64 a0_0, .int .i64 a0_1, .int .i64 a0_2, .sl a0_3, .sl a0_4]] r1.H).bind fun r15 =>
  cond (Nat.beq r15.e 2)
  ((nthP r15.vs 0).bind fun p16 =>
   p16.sc?.bind fun c17 =>
   (slAt [c17] 0).bind fun s18 =>
   some ⟨1, [.sc (.sl s18)], r15.H⟩)
  (none) := by kernel_rfl
/- loop.example/g03211/spec.l12Labels -/
theorem e_sl12Labels_0 (C : Oracle) (x0 x3 : Sl) (x4 : Int) (H : AH) : (procM P T C (.loop F.sl12Labels 0) [.sc (.sl x0), .sc (.sl x3), .sc (.int .i64 x4)] H).run =
  cond (decide (x4 ≤ 99))
  ((C (.fn F.sl12Dim) [.sc (.sl x0), .sc (.int .i64 x4)] H).bind fun r2 =>
   (oneP r2.vs).bind fun p3 =>
   p3.sc?.bind fun c4 =>
   (intAt .i64 [c4] 0).bind fun n5 =>
   cond (decide (n5 > 0))
   ((newB r2.H 1 [.int .i64 x4]).bind fun h6 =>
    (rng h6.2 h6.1 0 (1 * 1)).bind fun l7 =>
    (appB h6.2 1 8 x3 l7 1).bind fun m8 =>
    C (.loop F.sl12Labels 0) [.sc (.sl x0), .sc (.sl m8.1), .sc (.int .i64 (IntKind.wrap .i64 (x4 + 1)))] m8.2)
   (C (.loop F.sl12Labels 0) [.sc (.sl x0), .sc (.sl x3), .sc (.int .i64 (IntKind.wrap .i64 (x4 + 1)))] r2.H))
  (some ⟨2, [.sc (.sl x3)], H⟩) := by kernel_rfl
theorem e_sl12Labels (C : Oracle) (a0 : Sl) (H : AH) : (procM P T C (.fn F.sl12Labels) [.sc (.sl a0)] H).run =
  (newB H 1 []).bind fun h1 =>
  (C (.loop F.sl12Labels 0) [.sc (.sl a0), .sc (.sl ⟨h1.1, 0, 0, 0, true⟩), .sc (.int .i64 0)] h1.2).bind fun r9 =>
  cond (Nat.beq r9.e 2)
  ((nthP r9.vs 0).bind fun p10 =>
   p10.sc?.bind fun c11 =>
   (slAt [c11] 0).bind fun s12 =>
   some ⟨1, [.sc (.sl s12)], r9.H⟩)
  (none) := by kernel_rfl
/- (*loop.example/g03211/impl.orderState).resultLabels -/
theorem e_x__impl_orderState__resultLabels_0 (C : Oracle) (x0b x0o : Nat) (x1 x2 : Int) (x7 x29 : Sl) (x30 x31 : Int) (H : AH) : (procM P T C (.loop F.x__impl_orderState__resultLabels 0) [.sc (.hp x0b x0o), .sc (.int .i64 x1), .sc (.int .i64 x2), .sc (.sl x7), .sc (.sl x29), .sc (.int .i64 x30), .sc (.int .i64 x31)] H).run =
  cond (decide (x31 < x30))
  ((ixA x29 x31 1).bind fun o15 =>
   (rdB H x29.b).bind fun c16 =>
   (intAt .i64 c16 o15).bind fun n17 =>
   (rdB H x0b).bind fun c18 =>
   (slAt c18 (x0o + 100)).bind fun s19 =>
   (C (.fn F.ihasInt) [.sc (.sl s19), .sc (.int .i64 n17)] H).bind fun r20 =>
   (oneP r20.vs).bind fun p21 =>
   p21.sc?.bind fun c22 =>
   (boolAt [c22] 0).bind fun b23 =>
   (rdB r20.H x0b).bind fun c24 =>
   (slAt c24 (x0o + 101)).bind fun s25 =>
   (C (.loop F.x__impl_orderState__resultLabels 1) [.sc (.int .i64 x1), .sc (.int .i64 x2), .sc (.int .i64 n17), .sc (.bool b23), .sc (.sl s25), .sc (.int .i64 (s25.n : Int)), .sc (.int .i64 0)] r20.H).bind fun r34 =>
   cond (Nat.beq r34.e 4)
   ((nthP r34.vs 0).bind fun p35 =>
    p35.sc?.bind fun c36 =>
    (boolAt [c36] 0).bind fun b37 =>
    cond b37
    ((newB r34.H 1 [.int .i64 n17]).bind fun h38 =>
     (rng h38.2 h38.1 0 (1 * 1)).bind fun l39 =>
     (appB h38.2 1 8 x7 l39 1).bind fun m40 =>
     C (.loop F.x__impl_orderState__resultLabels 0) [.sc (.hp x0b x0o), .sc (.int .i64 x1), .sc (.int .i64 x2), .sc (.sl m40.1), .sc (.sl x29), .sc (.int .i64 x30), .sc (.int .i64 (IntKind.wrap .i64 (x31 + 1)))] m40.2)
    (C (.loop F.x__impl_orderState__resultLabels 0) [.sc (.hp x0b x0o), .sc (.int .i64 x1), .sc (.int .i64 x2), .sc (.sl x7), .sc (.sl x29), .sc (.int .i64 x30), .sc (.int .i64 (IntKind.wrap .i64 (x31 + 1)))] r34.H))
   (none))
  (some ⟨2, [.sc (.sl x7)], H⟩) := by kernel_rfl
theorem e_x__impl_orderState__resultLabels_1 (C : Oracle) (x1 x2 x9 : Int) (x10 : Bool) (x44 : Sl) (x45 x46 : Int) (H : AH) : (procM P T C (.loop F.x__impl_orderState__resultLabels 1) [.sc (.int .i64 x1), .sc (.int .i64 x2), .sc (.int .i64 x9), .sc (.bool x10), .sc (.sl x44), .sc (.int .i64 x45), .sc (.int .i64 x46)] H).run =
  cond (decide (x46 < x45))
  ((ixA x44 x46 2).bind fun o26 =>
   (rdB H x44.b).bind fun c27 =>
   (intAt .i64 c27 o26).bind fun n28 =>
   (slAt c27 (o26 + 1)).bind fun s29 =>
   cond (x46 != x1)
   (cond (x46 != x2)
    ((C (.fn F.ihasInt) [.sc (.sl s29), .sc (.int .i64 x9)] H).bind fun r30 =>
     (oneP r30.vs).bind fun p31 =>
     p31.sc?.bind fun c32 =>
     (boolAt [c32] 0).bind fun b33 =>
     cond b33
     (C (.loop F.x__impl_orderState__resultLabels 1) [.sc (.int .i64 x1), .sc (.int .i64 x2), .sc (.int .i64 x9), .sc (.bool true), .sc (.sl x44), .sc (.int .i64 x45), .sc (.int .i64 (IntKind.wrap .i64 (x46 + 1)))] r30.H)
     (C (.loop F.x__impl_orderState__resultLabels 1) [.sc (.int .i64 x1), .sc (.int .i64 x2), .sc (.int .i64 x9), .sc (.bool x10), .sc (.sl x44), .sc (.int .i64 x45), .sc (.int .i64 (IntKind.wrap .i64 (x46 + 1)))] r30.H))
    (C (.loop F.x__impl_orderState__resultLabels 1) [.sc (.int .i64 x1), .sc (.int .i64 x2), .sc (.int .i64 x9), .sc (.bool x10), .sc (.sl x44), .sc (.int .i64 x45), .sc (.int .i64 (IntKind.wrap .i64 (x46 + 1)))] H))
   (C (.loop F.x__impl_orderState__resultLabels 1) [.sc (.int .i64 x1), .sc (.int .i64 x2), .sc (.int .i64 x9), .sc (.bool x10), .sc (.sl x44), .sc (.int .i64 x45), .sc (.int .i64 (IntKind.wrap .i64 (x46 + 1)))] H))
  (some ⟨4, [.sc (.bool x10)], H⟩) := by kernel_rfl
theorem e_x__impl_orderState__resultLabels (C : Oracle) (a0b a0o : Nat) (a1 a2 : Int) (H : AH) : (procM P T C (.fn F.x__impl_orderState__resultLabels) [.sc (.hp a0b a0o), .sc (.int .i64 a1), .sc (.int .i64 a2)] H).run =
  (rdB H a0b).bind fun c1 =>
  (slAt c1 (a0o + 101)).bind fun s2 =>
  (ixA s2 a1 2).bind fun o3 =>
  (rdB H s2.b).bind fun c4 =>
  (slAt c4 (o3 + 1)).bind fun s5 =>
  (rdB H a0b).bind fun c6 =>
  (slAt c6 (a0o + 101)).bind fun s7 =>
  (ixA s7 a2 2).bind fun o8 =>
  (rdB H s7.b).bind fun c9 =>
  (slAt c9 (o8 + 1)).bind fun s10 =>
  (C (.fn F.ijoinLabels) [.sc (.sl s5), .sc (.sl s10)] H).bind fun r11 =>
  (oneP r11.vs).bind fun p12 =>
  p12.sc?.bind fun c13 =>
  (slAt [c13] 0).bind fun s14 =>
  (C (.loop F.x__impl_orderState__resultLabels 0) [.sc (.hp a0b a0o), .sc (.int .i64 a1), .sc (.int .i64 a2), .sc (.sl ⟨0, 0, 0, 0, true⟩), .sc (.sl s14), .sc (.int .i64 (s14.n : Int)), .sc (.int .i64 0)] r11.H).bind fun r41 =>
  cond (Nat.beq r41.e 2)
  ((nthP r41.vs 0).bind fun p42 =>
   p42.sc?.bind fun c43 =>
   (slAt [c43] 0).bind fun s44 =>
   some ⟨1, [.sc (.sl s44)], r41.H⟩)
  (none) := by kernel_rfl
/- loop.example/g03211/impl.LabelsOf -/
theorem e_iLabelsOf (C : Oracle) (a0_0 a0_1 a0_2 : Int) (a0_3 a0_4 : Sl) (H : AH) : (procM P T C (.fn F.iLabelsOf) [.agg [.int .i64 a0_0, .int .i64 a0_1, .int .i64 a0_2, .sl a0_3, .sl a0_4]] H).run =
  (C (.fn F.iNetworkOk) [.agg [.int .i64 a0_0, .int .i64 a0_1, .int .i64 a0_2, .sl a0_3, .sl a0_4]] H).bind fun r1 =>
  (oneP r1.vs).bind fun p2 =>
  p2.sc?.bind fun c3 =>
  (boolAt [c3] 0).bind fun b4 =>
  cond (!b4)
  (some ⟨1, [.sc (.sl ⟨0, 0, 0, 0, true⟩)], r1.H⟩)
  ((C (.fn F.idimsOf) [.sc (.sl a0_3)] r1.H).bind fun r5 =>
   (lenP r5.vs 2).bind fun _ =>
   (nthP r5.vs 0).bind fun p6 =>
   p6.agg?.bind fun l7 =>
   cond (decide (l7.length = 100))
   ((nthP r5.vs 1).bind fun p8 =>
    p8.sc?.bind fun c9 =>
    (boolAt [c9] 0).bind fun b10 =>
    cond (Nat.beq l7.length 100)
    (cond (decide (0 + l7.length ≤ (zc P Y.t100_int).length))
     (cond (decide (100 ≤ (setAll (zc P Y.t100_int) 0 l7).length))
      ((C (.fn F.ioccurring) [.agg (((setAll (zc P Y.t100_int) 0 l7).drop 0).take 100)] r5.H).bind fun r11 =>
       (oneP r11.vs).bind fun p12 =>
       p12.sc?.bind fun c13 =>
       (slAt [c13] 0).bind fun s14 =>
       some ⟨1, [.sc (.sl s14)], r11.H⟩)
      (none))
     (none))
    (none))
   (none)) := by kernel_rfl
/- loop.example/g03211/impl.joinLabels -/
theorem e_ijoinLabels_0 (C : Oracle) (x0 x5 x10 : Sl) (x11 x12 : Int) (H : AH) : (procM P T C (.loop F.ijoinLabels 0) [.sc (.sl x0), .sc (.sl x5), .sc (.sl x10), .sc (.int .i64 x11), .sc (.int .i64 x12)] H).run =
  cond (decide (x12 < x11))
  ((ixA x10 x12 1).bind fun o5 =>
   (rdB H x10.b).bind fun c6 =>
   (intAt .i64 c6 o5).bind fun n7 =>
   (C (.fn F.ihasInt) [.sc (.sl x0), .sc (.int .i64 n7)] H).bind fun r8 =>
   (oneP r8.vs).bind fun p9 =>
   p9.sc?.bind fun c10 =>
   (boolAt [c10] 0).bind fun b11 =>
   cond (!b11)
   ((newB r8.H 1 [.int .i64 n7]).bind fun h12 =>
    (rng h12.2 h12.1 0 (1 * 1)).bind fun l13 =>
    (appB h12.2 1 8 x5 l13 1).bind fun m14 =>
    C (.loop F.ijoinLabels 0) [.sc (.sl x0), .sc (.sl m14.1), .sc (.sl x10), .sc (.int .i64 x11), .sc (.int .i64 (IntKind.wrap .i64 (x12 + 1)))] m14.2)
   (C (.loop F.ijoinLabels 0) [.sc (.sl x0), .sc (.sl x5), .sc (.sl x10), .sc (.int .i64 x11), .sc (.int .i64 (IntKind.wrap .i64 (x12 + 1)))] r8.H))
  (some ⟨2, [.sc (.sl x5)], H⟩) := by kernel_rfl
theorem e_ijoinLabels (C : Oracle) (a0 a1 : Sl) (H : AH) : (procM P T C (.fn F.ijoinLabels) [.sc (.sl a0), .sc (.sl a1)] H).run =
  (C (.fn F.icopyInts) [.sc (.sl a0)] H).bind fun r1 =>
  (oneP r1.vs).bind fun p2 =>
  p2.sc?.bind fun c3 =>
  (slAt [c3] 0).bind fun s4 =>
  (C (.loop F.ijoinLabels 0) [.sc (.sl a0), .sc (.sl s4), .sc (.sl a1), .sc (.int .i64 (a1.n : Int)), .sc (.int .i64 0)] r1.H).bind fun r15 =>
  cond (Nat.beq r15.e 2)
  ((nthP r15.vs 0).bind fun p16 =>
   p16.sc?.bind fun c17 =>
   (slAt [c17] 0).bind fun s18 =>
   some ⟨1, [.sc (.sl s18)], r15.H⟩)
  (none) := by kernel_rfl
/- loop.example/g03211/impl.occurring -/
theorem e_ioccurring_0 (C : Oracle) (x3 : Sl) (x6 : List Sc) (x7 : Int) (H : AH) : (procM P T C (.loop F.ioccurring 0) [.sc (.sl x3), .agg x6, .sc (.int .i64 x7)] H).run =
  cond (decide (x7 < 100))
  ((ixA ⟨0, 0, 100, 100, true⟩ x7 1).bind fun o1 =>
   (intAt .i64 x6 o1).bind fun n2 =>
   cond (n2 != 0)
   ((newB H 1 [.int .i64 x7]).bind fun h3 =>
    (rng h3.2 h3.1 0 (1 * 1)).bind fun l4 =>
    (appB h3.2 1 8 x3 l4 1).bind fun m5 =>
    C (.loop F.ioccurring 0) [.sc (.sl m5.1), .agg x6, .sc (.int .i64 (IntKind.wrap .i64 (x7 + 1)))] m5.2)
   (C (.loop F.ioccurring 0) [.sc (.sl x3), .agg x6, .sc (.int .i64 (IntKind.wrap .i64 (x7 + 1)))] H))
  (some ⟨2, [.sc (.sl x3)], H⟩) := by kernel_rfl
theorem e_ioccurring (C : Oracle) (a0 : List Sc) (H : AH) : (procM P T C (.fn F.ioccurring) [.agg a0] H).run =
  cond (decide (100 ≤ a0.length))
  ((C (.loop F.ioccurring 0) [.sc (.sl ⟨0, 0, 0, 0, true⟩), .agg ((a0.drop 0).take 100), .sc (.int .i64 0)] H).bind fun r6 =>
   cond (Nat.beq r6.e 2)
   ((nthP r6.vs 0).bind fun p7 =>
    p7.sc?.bind fun c8 =>
    (slAt [c8] 0).bind fun s9 =>
    some ⟨1, [.sc (.sl s9)], r6.H⟩)
   (none))
  (none) := by kernel_rfl
end Go.Abs
