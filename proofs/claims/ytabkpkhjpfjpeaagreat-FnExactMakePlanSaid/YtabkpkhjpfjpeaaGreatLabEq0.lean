/- Part of the proof of FnExactMakePlan: that for every input the law answers true and leaves what it reads as it was. Conditions: none beyond the given statement. -/
import Derived.Test.YtabkpkhjpfjpeaaGreatLabTab
import Derived.KernelRfl
set_option linter.all false
/- The equations of the functions: what the abstract interpreter makes of their code. -/
namespace Go.Abs
set_option maxRecDepth 100000
set_option linter.unusedVariables false
/- loop.example/g03211/laws.FnExactMakePlan -/
theorem e_wFnExactMakePlan (C : Oracle) (a0_0 a0_1 a0_2 : Int) (a0_3 a0_4 a1 a2 : Sl) (H : AH) : (procM P T C (.fn F.wFnExactMakePlan) [.agg [.int .i64 a0_0, .int .i64 a0_1, .int .i64 a0_2, .sl a0_3, .sl a0_4], .sc (.sl a1), .sc (.sl a2)] H).run =
  cond (decide ((a2.n : Int) > 1048576))
  (some ⟨1, [.sc (.bool true)], H⟩)
  ((C (.fn F.wszNetwork) [.agg [.int .i64 a0_0, .int .i64 a0_1, .int .i64 a0_2, .sl a0_3, .sl a0_4], .sc (.int .i64 1048576)] H).bind fun r1 =>
   (oneP r1.vs).bind fun p2 =>
   p2.sc?.bind fun c3 =>
   (intAt .i64 [c3] 0).bind fun n4 =>
   cond (decide (n4 < 0))
   (some ⟨1, [.sc (.bool true)], r1.H⟩)
   ((C (.fn F.wszStepS) [.sc (.sl a1), .sc (.int .i64 n4)] r1.H).bind fun r5 =>
    (oneP r5.vs).bind fun p6 =>
    p6.sc?.bind fun c7 =>
    (intAt .i64 [c7] 0).bind fun n8 =>
    cond (decide (n8 < 0))
    (some ⟨1, [.sc (.bool true)], r5.H⟩)
    ((C (.fn F.wtoNetwork) [.agg [.int .i64 a0_0, .int .i64 a0_1, .int .i64 a0_2, .sl a0_3, .sl a0_4]] r5.H).bind fun r9 =>
     (oneP r9.vs).bind fun p10 =>
     p10.agg?.bind fun l11 =>
     cond (decide (l11.length = 5))
     ((intAt .i64 l11 0).bind fun n12 =>
      (intAt .i64 l11 1).bind fun n13 =>
      (intAt .i64 l11 2).bind fun n14 =>
      (slAt l11 3).bind fun s15 =>
      (slAt l11 4).bind fun s16 =>
      (C (.fn F.wtoStepS) [.sc (.sl a1)] r9.H).bind fun r17 =>
      (oneP r17.vs).bind fun p18 =>
      p18.sc?.bind fun c19 =>
      (slAt [c19] 0).bind fun s20 =>
      (C (.fn F.wtoIntS) [.sc (.sl a2)] r17.H).bind fun r21 =>
      (oneP r21.vs).bind fun p22 =>
      p22.sc?.bind fun c23 =>
      (slAt [c23] 0).bind fun s24 =>
      (C (.fn F.sMakePlan) [.agg [.int .i64 n12, .int .i64 n13, .int .i64 n14, .sl s15, .sl s16], .sc (.sl s20), .sc (.sl s24)] r21.H).bind fun r25 =>
      (lenP r25.vs 2).bind fun _ =>
      (nthP r25.vs 0).bind fun p26 =>
      p26.agg?.bind fun l27 =>
      cond (decide (l27.length = 4))
      ((slAt l27 0).bind fun s28 =>
       (slAt l27 1).bind fun s29 =>
       (intAt .i64 l27 2).bind fun n30 =>
       (intAt .i64 l27 3).bind fun n31 =>
       (nthP r25.vs 1).bind fun p32 =>
       p32.sc?.bind fun c33 =>
       (boolAt [c33] 0).bind fun b34 =>
       (C (.fn F.wtoNetwork) [.agg [.int .i64 a0_0, .int .i64 a0_1, .int .i64 a0_2, .sl a0_3, .sl a0_4]] r25.H).bind fun r35 =>
       (oneP r35.vs).bind fun p36 =>
       p36.agg?.bind fun l37 =>
       cond (decide (l37.length = 5))
       ((intAt .i64 l37 0).bind fun n38 =>
        (intAt .i64 l37 1).bind fun n39 =>
        (intAt .i64 l37 2).bind fun n40 =>
        (slAt l37 3).bind fun s41 =>
        (slAt l37 4).bind fun s42 =>
        (C (.fn F.wtoStepS) [.sc (.sl a1)] r35.H).bind fun r43 =>
        (oneP r43.vs).bind fun p44 =>
        p44.sc?.bind fun c45 =>
        (slAt [c45] 0).bind fun s46 =>
        (C (.fn F.wtoIntS) [.sc (.sl a2)] r43.H).bind fun r47 =>
        (oneP r47.vs).bind fun p48 =>
        p48.sc?.bind fun c49 =>
        (slAt [c49] 0).bind fun s50 =>
        (C (.fn F.iMakePlan) [.agg [.int .i64 n38, .int .i64 n39, .int .i64 n40, .sl s41, .sl s42], .sc (.sl s46), .sc (.sl s50)] r47.H).bind fun r51 =>
        (lenP r51.vs 2).bind fun _ =>
        (nthP r51.vs 0).bind fun p52 =>
        p52.agg?.bind fun l53 =>
        cond (decide (l53.length = 4))
        ((slAt l53 0).bind fun s54 =>
         (slAt l53 1).bind fun s55 =>
         (intAt .i64 l53 2).bind fun n56 =>
         (intAt .i64 l53 3).bind fun n57 =>
         (nthP r51.vs 1).bind fun p58 =>
         p58.sc?.bind fun c59 =>
         (boolAt [c59] 0).bind fun b60 =>
         (C (.fn F.weqPlan) [.agg [.sl s54, .sl s55, .int .i64 n56, .int .i64 n57], .agg [.sl s28, .sl s29, .int .i64 n30, .int .i64 n31]] r51.H).bind fun r61 =>
         (oneP r61.vs).bind fun p62 =>
         p62.sc?.bind fun c63 =>
         (boolAt [c63] 0).bind fun b64 =>
         cond (!b64)
         (some ⟨1, [.sc (.bool false)], r61.H⟩)
         (cond (b60 != b34)
          (some ⟨1, [.sc (.bool false)], r61.H⟩)
          ((C (.fn F.wtoNetwork) [.agg [.int .i64 a0_0, .int .i64 a0_1, .int .i64 a0_2, .sl a0_3, .sl a0_4]] r61.H).bind fun r65 =>
           (oneP r65.vs).bind fun p66 =>
           p66.agg?.bind fun l67 =>
           cond (decide (l67.length = 5))
           ((intAt .i64 l67 0).bind fun n68 =>
            (intAt .i64 l67 1).bind fun n69 =>
            (intAt .i64 l67 2).bind fun n70 =>
            (slAt l67 3).bind fun s71 =>
            (slAt l67 4).bind fun s72 =>
            (C (.fn F.weqNetwork) [.agg [.int .i64 n38, .int .i64 n39, .int .i64 n40, .sl s41, .sl s42], .agg [.int .i64 n68, .int .i64 n69, .int .i64 n70, .sl s71, .sl s72]] r65.H).bind fun r73 =>
            (oneP r73.vs).bind fun p74 =>
            p74.sc?.bind fun c75 =>
            (boolAt [c75] 0).bind fun b76 =>
            cond (!b76)
            (some ⟨1, [.sc (.bool false)], r73.H⟩)
            ((C (.fn F.wtoStepS) [.sc (.sl a1)] r73.H).bind fun r77 =>
             (oneP r77.vs).bind fun p78 =>
             p78.sc?.bind fun c79 =>
             (slAt [c79] 0).bind fun s80 =>
             (C (.fn F.weqStepS) [.sc (.sl s46), .sc (.sl s80)] r77.H).bind fun r81 =>
             (oneP r81.vs).bind fun p82 =>
             p82.sc?.bind fun c83 =>
             (boolAt [c83] 0).bind fun b84 =>
             cond (!b84)
             (some ⟨1, [.sc (.bool false)], r81.H⟩)
             ((C (.fn F.wtoIntS) [.sc (.sl a2)] r81.H).bind fun r85 =>
              (oneP r85.vs).bind fun p86 =>
              p86.sc?.bind fun c87 =>
              (slAt [c87] 0).bind fun s88 =>
              (C (.fn F.weqIntS) [.sc (.sl s50), .sc (.sl s88)] r85.H).bind fun r89 =>
              (oneP r89.vs).bind fun p90 =>
              p90.sc?.bind fun c91 =>
              (boolAt [c91] 0).bind fun b92 =>
              cond (!b92)
              (some ⟨1, [.sc (.bool false)], r89.H⟩)
              ((C (.fn F.wmarkNetwork) [.agg [.int .i64 n38, .int .i64 n39, .int .i64 n40, .sl s41, .sl s42], .sc (.int .i64 1)] r89.H).bind fun r93 =>
               (oneP r93.vs).bind fun p94 =>
               p94.sc?.bind fun c95 =>
               (intAt .i64 [c95] 0).bind fun n96 =>
               (C (.fn F.wmarkStepS) [.sc (.sl s46), .sc (.int .i64 n96)] r93.H).bind fun r97 =>
               (oneP r97.vs).bind fun p98 =>
               p98.sc?.bind fun c99 =>
               (intAt .i64 [c99] 0).bind fun n100 =>
               (C (.fn F.wmarkIntS) [.sc (.sl s50), .sc (.int .i64 n100)] r97.H).bind fun r101 =>
               (oneP r101.vs).bind fun p102 =>
               p102.sc?.bind fun c103 =>
               (intAt .i64 [c103] 0).bind fun n104 =>
               cond (decide (n104 < 0))
               (some ⟨1, [.sc (.bool false)], r101.H⟩)
               ((C (.fn F.weqPlan) [.agg [.sl s54, .sl s55, .int .i64 n56, .int .i64 n57], .agg [.sl s28, .sl s29, .int .i64 n30, .int .i64 n31]] r101.H).bind fun r105 =>
                (oneP r105.vs).bind fun p106 =>
                p106.sc?.bind fun c107 =>
                (boolAt [c107] 0).bind fun b108 =>
                cond (!b108)
                (some ⟨1, [.sc (.bool false)], r105.H⟩)
                (cond (b60 != b34)
                 (some ⟨1, [.sc (.bool false)], r105.H⟩)
                 ((C (.fn F.wmarkPlan) [.agg [.sl s54, .sl s55, .int .i64 n56, .int .i64 n57], .sc (.int .i64 1)] r105.H).bind fun r109 =>
                  (oneP r109.vs).bind fun p110 =>
                  p110.sc?.bind fun c111 =>
                  (intAt .i64 [c111] 0).bind fun n112 =>
                  (C (.fn F.wheldPlan) [.agg [.sl s54, .sl s55, .int .i64 n56, .int .i64 n57], .sc (.int .i64 1)] r109.H).bind fun r113 =>
                  (oneP r113.vs).bind fun p114 =>
                  p114.sc?.bind fun c115 =>
                  (intAt .i64 [c115] 0).bind fun n116 =>
                  cond (decide (n116 < 0))
                  (some ⟨1, [.sc (.bool false)], r113.H⟩)
                  (cond (n116 != n112)
                   (some ⟨1, [.sc (.bool false)], r113.H⟩)
                   ((C (.fn F.wtoNetwork) [.agg [.int .i64 a0_0, .int .i64 a0_1, .int .i64 a0_2, .sl a0_3, .sl a0_4]] r113.H).bind fun r117 =>
                    (oneP r117.vs).bind fun p118 =>
                    p118.agg?.bind fun l119 =>
                    cond (decide (l119.length = 5))
                    ((intAt .i64 l119 0).bind fun n120 =>
                     (intAt .i64 l119 1).bind fun n121 =>
                     (intAt .i64 l119 2).bind fun n122 =>
                     (slAt l119 3).bind fun s123 =>
                     (slAt l119 4).bind fun s124 =>
                     (C (.fn F.wtoStepS) [.sc (.sl a1)] r117.H).bind fun r125 =>
                     (oneP r125.vs).bind fun p126 =>
                     p126.sc?.bind fun c127 =>
                     (slAt [c127] 0).bind fun s128 =>
                     (C (.fn F.wtoIntS) [.sc (.sl a2)] r125.H).bind fun r129 =>
                     (oneP r129.vs).bind fun p130 =>
                     p130.sc?.bind fun c131 =>
                     (slAt [c131] 0).bind fun s132 =>
                     (C (.fn F.iMakePlan) [.agg [.int .i64 n120, .int .i64 n121, .int .i64 n122, .sl s123, .sl s124], .sc (.sl s128), .sc (.sl s132)] r129.H).bind fun r133 =>
                     (lenP r133.vs 2).bind fun _ =>
                     (nthP r133.vs 0).bind fun p134 =>
                     p134.agg?.bind fun l135 =>
                     cond (decide (l135.length = 4))
                     ((slAt l135 0).bind fun s136 =>
                      (slAt l135 1).bind fun s137 =>
                      (intAt .i64 l135 2).bind fun n138 =>
                      (intAt .i64 l135 3).bind fun n139 =>
                      (nthP r133.vs 1).bind fun p140 =>
                      p140.sc?.bind fun c141 =>
                      (boolAt [c141] 0).bind fun b142 =>
                      (C (.fn F.weqPlan) [.agg [.sl s136, .sl s137, .int .i64 n138, .int .i64 n139], .agg [.sl s28, .sl s29, .int .i64 n30, .int .i64 n31]] r133.H).bind fun r143 =>
                      (oneP r143.vs).bind fun p144 =>
                      p144.sc?.bind fun c145 =>
                      (boolAt [c145] 0).bind fun b146 =>
                      cond (!b146)
                      (some ⟨1, [.sc (.bool false)], r143.H⟩)
                      (cond (b142 != b34)
                       (some ⟨1, [.sc (.bool false)], r143.H⟩)
                       ((C (.fn F.wheldPlan) [.agg [.sl s54, .sl s55, .int .i64 n56, .int .i64 n57], .sc (.int .i64 1)] r143.H).bind fun r147 =>
                        (oneP r147.vs).bind fun p148 =>
                        p148.sc?.bind fun c149 =>
                        (intAt .i64 [c149] 0).bind fun n150 =>
                        cond (decide (n150 < 0))
                        (some ⟨1, [.sc (.bool false)], r147.H⟩)
                        (cond (n150 != n112)
                         (some ⟨1, [.sc (.bool false)], r147.H⟩)
                         (some ⟨1, [.sc (.bool true)], r147.H⟩)))))
                     (none))
                    (none))))))))))
           (none))))
        (none))
       (none))
      (none))
     (none)))) := by kernel_rfl
/- loop.example/g03211/laws.szNetwork -/
theorem e_wszNetwork (C : Oracle) (a0_0 a0_1 a0_2 : Int) (a0_3 a0_4 : Sl) (a1 : Int) (H : AH) : (procM P T C (.fn F.wszNetwork) [.agg [.int .i64 a0_0, .int .i64 a0_1, .int .i64 a0_2, .sl a0_3, .sl a0_4], .sc (.int .i64 a1)] H).run =
  (C (.fn F.wszTensorS) [.sc (.sl a0_3), .sc (.int .i64 a1)] H).bind fun r1 =>
  (oneP r1.vs).bind fun p2 =>
  p2.sc?.bind fun c3 =>
  (intAt .i64 [c3] 0).bind fun n4 =>
  cond (decide (n4 < 0))
  (some ⟨1, [.sc (.int .i64 (-1))], r1.H⟩)
  ((C (.fn F.wszIntS) [.sc (.sl a0_4), .sc (.int .i64 n4)] r1.H).bind fun r5 =>
   (oneP r5.vs).bind fun p6 =>
   p6.sc?.bind fun c7 =>
   (intAt .i64 [c7] 0).bind fun n8 =>
   cond (decide (n8 < 0))
   (some ⟨1, [.sc (.int .i64 (-1))], r5.H⟩)
   (some ⟨1, [.sc (.int .i64 n8)], r5.H⟩)) := by kernel_rfl
/- loop.example/g03211/laws.toNetwork -/
theorem e_wtoNetwork (C : Oracle) (a0_0 a0_1 a0_2 : Int) (a0_3 a0_4 : Sl) (H : AH) : (procM P T C (.fn F.wtoNetwork) [.agg [.int .i64 a0_0, .int .i64 a0_1, .int .i64 a0_2, .sl a0_3, .sl a0_4]] H).run =
  (C (.fn F.wtoRing) [.agg [.int .i64 a0_0, .int .i64 a0_1, .int .i64 a0_2]] H).bind fun r1 =>
  (oneP r1.vs).bind fun p2 =>
  p2.agg?.bind fun l3 =>
  cond (decide (l3.length = 3))
  ((intAt .i64 l3 0).bind fun n4 =>
   (intAt .i64 l3 1).bind fun n5 =>
   (intAt .i64 l3 2).bind fun n6 =>
   (C (.fn F.wtoTensorS) [.sc (.sl a0_3)] r1.H).bind fun r7 =>
   (oneP r7.vs).bind fun p8 =>
   p8.sc?.bind fun c9 =>
   (slAt [c9] 0).bind fun s10 =>
   (C (.fn F.wtoIntS) [.sc (.sl a0_4)] r7.H).bind fun r11 =>
   (oneP r11.vs).bind fun p12 =>
   p12.sc?.bind fun c13 =>
   (slAt [c13] 0).bind fun s14 =>
   some ⟨1, [.agg [.int .i64 n4, .int .i64 n5, .int .i64 n6, .sl s10, .sl s14]], r11.H⟩)
  (none) := by kernel_rfl
/- loop.example/g03211/laws.eqNetwork -/
theorem e_weqNetwork (C : Oracle) (a0_0 a0_1 a0_2 : Int) (a0_3 a0_4 : Sl) (a1_0 a1_1 a1_2 : Int) (a1_3 a1_4 : Sl) (H : AH) : (procM P T C (.fn F.weqNetwork) [.agg [.int .i64 a0_0, .int .i64 a0_1, .int .i64 a0_2, .sl a0_3, .sl a0_4], .agg [.int .i64 a1_0, .int .i64 a1_1, .int .i64 a1_2, .sl a1_3, .sl a1_4]] H).run =
  (C (.fn F.weqRing) [.agg [.int .i64 a0_0, .int .i64 a0_1, .int .i64 a0_2], .agg [.int .i64 a1_0, .int .i64 a1_1, .int .i64 a1_2]] H).bind fun r1 =>
  (oneP r1.vs).bind fun p2 =>
  p2.sc?.bind fun c3 =>
  (boolAt [c3] 0).bind fun b4 =>
  cond (!b4)
  (some ⟨1, [.sc (.bool false)], r1.H⟩)
  ((C (.fn F.weqTensorS) [.sc (.sl a0_3), .sc (.sl a1_3)] r1.H).bind fun r5 =>
   (oneP r5.vs).bind fun p6 =>
   p6.sc?.bind fun c7 =>
   (boolAt [c7] 0).bind fun b8 =>
   cond (!b8)
   (some ⟨1, [.sc (.bool false)], r5.H⟩)
   ((C (.fn F.weqIntS) [.sc (.sl a0_4), .sc (.sl a1_4)] r5.H).bind fun r9 =>
    (oneP r9.vs).bind fun p10 =>
    p10.sc?.bind fun c11 =>
    (boolAt [c11] 0).bind fun b12 =>
    cond (!b12)
    (some ⟨1, [.sc (.bool false)], r9.H⟩)
    (some ⟨1, [.sc (.bool true)], r9.H⟩))) := by kernel_rfl
/- loop.example/g03211/laws.eqPlan -/
theorem e_weqPlan (C : Oracle) (a0_0 a0_1 : Sl) (a0_2 a0_3 : Int) (a1_0 a1_1 : Sl) (a1_2 a1_3 : Int) (H : AH) : (procM P T C (.fn F.weqPlan) [.agg [.sl a0_0, .sl a0_1, .int .i64 a0_2, .int .i64 a0_3], .agg [.sl a1_0, .sl a1_1, .int .i64 a1_2, .int .i64 a1_3]] H).run =
  (C (.fn F.weqStepS) [.sc (.sl a0_0), .sc (.sl a1_0)] H).bind fun r1 =>
  (oneP r1.vs).bind fun p2 =>
  p2.sc?.bind fun c3 =>
  (boolAt [c3] 0).bind fun b4 =>
  cond (!b4)
  (some ⟨1, [.sc (.bool false)], r1.H⟩)
  ((C (.fn F.weqIntS) [.sc (.sl a0_1), .sc (.sl a1_1)] r1.H).bind fun r5 =>
   (oneP r5.vs).bind fun p6 =>
   p6.sc?.bind fun c7 =>
   (boolAt [c7] 0).bind fun b8 =>
   cond (!b8)
   (some ⟨1, [.sc (.bool false)], r5.H⟩)
   (cond (a0_2 != a1_2)
    (some ⟨1, [.sc (.bool false)], r5.H⟩)
    (cond (a0_3 != a1_3)
     (some ⟨1, [.sc (.bool false)], r5.H⟩)
     (some ⟨1, [.sc (.bool true)], r5.H⟩)))) := by kernel_rfl
/- loop.example/g03211/laws.szStepS -/
theorem e_wszStepS (C : Oracle) (a0 : Sl) (a1 : Int) (H : AH) : (procM P T C (.fn F.wszStepS) [.sc (.sl a0), .sc (.int .i64 a1)] H).run =
  cond (decide ((IntKind.wrap .i64 (a1 - (a0.n : Int))) < 0))
  (some ⟨1, [.sc (.int .i64 (-1))], H⟩)
  (some ⟨1, [.sc (.int .i64 (IntKind.wrap .i64 (a1 - (a0.n : Int))))], H⟩) := by kernel_rfl
/- loop.example/g03211/spec.MakePlan -/
theorem e_sMakePlan (C : Oracle) (a0_0 a0_1 a0_2 : Int) (a0_3 a0_4 a1 a2 : Sl) (H : AH) : (procM P T C (.fn F.sMakePlan) [.agg [.int .i64 a0_0, .int .i64 a0_1, .int .i64 a0_2, .sl a0_3, .sl a0_4], .sc (.sl a1), .sc (.sl a2)] H).run =
  (C (.fn F.sSliceCount) [.agg [.int .i64 a0_0, .int .i64 a0_1, .int .i64 a0_2, .sl a0_3, .sl a0_4], .sc (.sl a2)] H).bind fun r1 =>
  (oneP r1.vs).bind fun p2 =>
  p2.sc?.bind fun c3 =>
  (intAt .i64 [c3] 0).bind fun n4 =>
  (C (.fn F.sOrderOk) [.agg [.int .i64 a0_0, .int .i64 a0_1, .int .i64 a0_2, .sl a0_3, .sl a0_4], .sc (.sl a1)] r1.H).bind fun r5 =>
  (oneP r5.vs).bind fun p6 =>
  p6.sc?.bind fun c7 =>
  (boolAt [c7] 0).bind fun b8 =>
  cond (!b8)
  (some ⟨1, [.agg [.sl ⟨0, 0, 0, 0, true⟩, .sl ⟨0, 0, 0, 0, true⟩, .int .i64 0, .int .i64 0], .sc (.bool false)], r5.H⟩)
  (cond (decide (n4 < 0))
   (some ⟨1, [.agg [.sl ⟨0, 0, 0, 0, true⟩, .sl ⟨0, 0, 0, 0, true⟩, .int .i64 0, .int .i64 0], .sc (.bool false)], r5.H⟩)
   ((mkAt (reserve r5.H 1) (r5.H.length + 0) 1 8 [.int .i64 0] (a2.n : Int) (a2.n : Int)).bind fun m9 =>
    (C (.fn F.sl15Slice) [.agg [.int .i64 a0_0, .int .i64 a0_1, .int .i64 a0_2, .sl a0_3, .sl a0_4], .sc (.sl a2), .sc (.sl m9.1)] m9.2).bind fun r10 =>
    (oneP r10.vs).bind fun p11 =>
    p11.agg?.bind fun l12 =>
    cond (decide (l12.length = 5))
    ((intAt .i64 l12 0).bind fun n13 =>
     (intAt .i64 l12 1).bind fun n14 =>
     (intAt .i64 l12 2).bind fun n15 =>
     (slAt l12 3).bind fun s16 =>
     (slAt l12 4).bind fun s17 =>
     (newAt (reserve r10.H 1) (r10.H.length + 0) 2 []).bind fun h18 =>
     (rng h18.2 a1.b a1.o (a1.n * 2)).bind fun l19 =>
     (appB h18.2 2 16 ⟨h18.1, 0, 0, 0, true⟩ l19 a1.n).bind fun m20 =>
     (C (.fn F.sl05Ints) [.sc (.sl a2)] m20.2).bind fun r21 =>
     (oneP r21.vs).bind fun p22 =>
     p22.sc?.bind fun c23 =>
     (slAt [c23] 0).bind fun s24 =>
     (C (.fn F.sl17Peak) [.agg [.int .i64 n13, .int .i64 n14, .int .i64 n15, .sl s16, .sl s17], .sc (.sl a1)] r21.H).bind fun r25 =>
     (oneP r25.vs).bind fun p26 =>
     p26.sc?.bind fun c27 =>
     (intAt .i64 [c27] 0).bind fun n28 =>
     (C (.fn F.sl17Cost) [.agg [.int .i64 n13, .int .i64 n14, .int .i64 n15, .sl s16, .sl s17], .sc (.sl a1)] r25.H).bind fun r29 =>
     (oneP r29.vs).bind fun p30 =>
     p30.sc?.bind fun c31 =>
     (intAt .i64 [c31] 0).bind fun n32 =>
     some ⟨1, [.agg [.sl m20.1, .sl s24, .int .i64 n28, .int .i64 (if IntKind.wrap .i64 (n4 * n32) < 1000000000 then IntKind.wrap .i64 (n4 * n32) else 1000000000)], .sc (.bool true)], r29.H⟩)
    (none))) := by kernel_rfl
/- loop.example/g03211/laws.toStepS -/
theorem e_wtoStepS_0 (C : Oracle) (x0 x3 : Sl) (x4 : Int) (H : AH) : (procM P T C (.loop F.wtoStepS 0) [.sc (.sl x0), .sc (.sl x3), .sc (.int .i64 x4)] H).run =
  cond (decide (x4 < (x0.n : Int)))
  ((ixA x0 x4 2).bind fun o2 =>
   (rdB H x0.b).bind fun c3 =>
   (intAt .i64 c3 o2).bind fun n4 =>
   (intAt .i64 c3 (o2 + 1)).bind fun n5 =>
   (C (.fn F.wtoStep) [.agg [.int .i64 n4, .int .i64 n5]] H).bind fun r6 =>
   (oneP r6.vs).bind fun p7 =>
   p7.agg?.bind fun l8 =>
   cond (decide (l8.length = 2))
   ((intAt .i64 l8 0).bind fun n9 =>
    (intAt .i64 l8 1).bind fun n10 =>
    (ixA x3 x4 2).bind fun o11 =>
    (putR r6.H x3.b o11 [.int .i64 n9, .int .i64 n10]).bind fun H12 =>
    C (.loop F.wtoStepS 0) [.sc (.sl x0), .sc (.sl x3), .sc (.int .i64 (IntKind.wrap .i64 (x4 + 1)))] H12)
   (none))
  (some ⟨2, [], H⟩) := by kernel_rfl
theorem e_wtoStepS (C : Oracle) (a0 : Sl) (H : AH) : (procM P T C (.fn F.wtoStepS) [.sc (.sl a0)] H).run =
  (mkB H 2 16 [.int .i64 0, .int .i64 0] (a0.n : Int) (a0.n : Int)).bind fun m1 =>
  (C (.loop F.wtoStepS 0) [.sc (.sl a0), .sc (.sl m1.1), .sc (.int .i64 0)] m1.2).bind fun r13 =>
  cond (Nat.beq r13.e 2)
  (some ⟨1, [.sc (.sl m1.1)], r13.H⟩)
  (none) := by kernel_rfl
/- loop.example/g03211/laws.toIntS -/
theorem e_wtoIntS_0 (C : Oracle) (x0 x3 : Sl) (x4 : Int) (H : AH) : (procM P T C (.loop F.wtoIntS 0) [.sc (.sl x0), .sc (.sl x3), .sc (.int .i64 x4)] H).run =
  cond (decide (x4 < (x0.n : Int)))
  ((ixA x0 x4 1).bind fun o2 =>
   (rdB H x0.b).bind fun c3 =>
   (intAt .i64 c3 o2).bind fun n4 =>
   (ixA x3 x4 1).bind fun o5 =>
   (putR H x3.b o5 [.int .i64 n4]).bind fun H6 =>
   C (.loop F.wtoIntS 0) [.sc (.sl x0), .sc (.sl x3), .sc (.int .i64 (IntKind.wrap .i64 (x4 + 1)))] H6)
  (some ⟨2, [], H⟩) := by kernel_rfl
theorem e_wtoIntS (C : Oracle) (a0 : Sl) (H : AH) : (procM P T C (.fn F.wtoIntS) [.sc (.sl a0)] H).run =
  (mkB H 1 8 [.int .i64 0] (a0.n : Int) (a0.n : Int)).bind fun m1 =>
  (C (.loop F.wtoIntS 0) [.sc (.sl a0), .sc (.sl m1.1), .sc (.int .i64 0)] m1.2).bind fun r7 =>
  cond (Nat.beq r7.e 2)
  (some ⟨1, [.sc (.sl m1.1)], r7.H⟩)
  (none) := by kernel_rfl
/- loop.example/g03211/impl.MakePlan -/
theorem e_iMakePlan (C : Oracle) (a0_0 a0_1 a0_2 : Int) (a0_3 a0_4 a1 a2 : Sl) (H : AH) : (procM P T C (.fn F.iMakePlan) [.agg [.int .i64 a0_0, .int .i64 a0_1, .int .i64 a0_2, .sl a0_3, .sl a0_4], .sc (.sl a1), .sc (.sl a2)] H).run =
  (C (.fn F.iSliceCount) [.agg [.int .i64 a0_0, .int .i64 a0_1, .int .i64 a0_2, .sl a0_3, .sl a0_4], .sc (.sl a2)] H).bind fun r1 =>
  (oneP r1.vs).bind fun p2 =>
  p2.sc?.bind fun c3 =>
  (intAt .i64 [c3] 0).bind fun n4 =>
  (C (.fn F.iOrderOk) [.agg [.int .i64 a0_0, .int .i64 a0_1, .int .i64 a0_2, .sl a0_3, .sl a0_4], .sc (.sl a1)] r1.H).bind fun r5 =>
  (oneP r5.vs).bind fun p6 =>
  p6.sc?.bind fun c7 =>
  (boolAt [c7] 0).bind fun b8 =>
  cond (!b8)
  (some ⟨1, [.agg [.sl ⟨0, 0, 0, 0, true⟩, .sl ⟨0, 0, 0, 0, true⟩, .int .i64 0, .int .i64 0], .sc (.bool false)], r5.H⟩)
  (cond (n4 == (-1))
   (some ⟨1, [.agg [.sl ⟨0, 0, 0, 0, true⟩, .sl ⟨0, 0, 0, 0, true⟩, .int .i64 0, .int .i64 0], .sc (.bool false)], r5.H⟩)
   ((C (.fn F.isliceOf) [.agg [.int .i64 a0_0, .int .i64 a0_1, .int .i64 a0_2, .sl a0_3, .sl a0_4], .sc (.sl a2), .sc (.int .i64 0)] r5.H).bind fun r9 =>
    (oneP r9.vs).bind fun p10 =>
    p10.agg?.bind fun l11 =>
    cond (decide (l11.length = 5))
    ((intAt .i64 l11 0).bind fun n12 =>
     (intAt .i64 l11 1).bind fun n13 =>
     (intAt .i64 l11 2).bind fun n14 =>
     (slAt l11 3).bind fun s15 =>
     (slAt l11 4).bind fun s16 =>
     (C (.fn F.iOrderCost) [.agg [.int .i64 n12, .int .i64 n13, .int .i64 n14, .sl s15, .sl s16], .sc (.sl a1)] r9.H).bind fun r17 =>
     (oneP r17.vs).bind fun p18 =>
     p18.sc?.bind fun c19 =>
     (intAt .i64 [c19] 0).bind fun n20 =>
     (C (.fn F.icopySteps) [.sc (.sl a1)] r17.H).bind fun r21 =>
     (oneP r21.vs).bind fun p22 =>
     p22.sc?.bind fun c23 =>
     (slAt [c23] 0).bind fun s24 =>
     (C (.fn F.icopyInts) [.sc (.sl a2)] r21.H).bind fun r25 =>
     (oneP r25.vs).bind fun p26 =>
     p26.sc?.bind fun c27 =>
     (slAt [c27] 0).bind fun s28 =>
     (C (.fn F.iSlicedPeak) [.agg [.int .i64 a0_0, .int .i64 a0_1, .int .i64 a0_2, .sl a0_3, .sl a0_4], .sc (.sl a1), .sc (.sl a2)] r25.H).bind fun r29 =>
     (oneP r29.vs).bind fun p30 =>
     p30.sc?.bind fun c31 =>
     (intAt .i64 [c31] 0).bind fun n32 =>
     some ⟨1, [.agg [.sl s24, .sl s28, .int .i64 n32, .int .i64 (if 1000000000 < IntKind.wrap .i64 (n4 * n20) then 1000000000 else IntKind.wrap .i64 (n4 * n20))], .sc (.bool true)], r29.H⟩)
    (none))) := by kernel_rfl
/- loop.example/g03211/laws.eqStepS -/
theorem e_weqStepS_0 (C : Oracle) (x0 x1 : Sl) (x5 : Int) (H : AH) : (procM P T C (.loop F.weqStepS 0) [.sc (.sl x0), .sc (.sl x1), .sc (.int .i64 x5)] H).run =
  cond (decide (x5 < (x0.n : Int)))
  ((ixA x0 x5 2).bind fun o1 =>
   (rdB H x0.b).bind fun c2 =>
   (intAt .i64 c2 o1).bind fun n3 =>
   (intAt .i64 c2 (o1 + 1)).bind fun n4 =>
   (ixA x1 x5 2).bind fun o5 =>
   (rdB H x1.b).bind fun c6 =>
   (intAt .i64 c6 o5).bind fun n7 =>
   (intAt .i64 c6 (o5 + 1)).bind fun n8 =>
   (C (.fn F.weqStep) [.agg [.int .i64 n3, .int .i64 n4], .agg [.int .i64 n7, .int .i64 n8]] H).bind fun r9 =>
   (oneP r9.vs).bind fun p10 =>
   p10.sc?.bind fun c11 =>
   (boolAt [c11] 0).bind fun b12 =>
   cond (!b12)
   (some ⟨1, [.sc (.bool false)], r9.H⟩)
   (C (.loop F.weqStepS 0) [.sc (.sl x0), .sc (.sl x1), .sc (.int .i64 (IntKind.wrap .i64 (x5 + 1)))] r9.H))
  (some ⟨2, [], H⟩) := by kernel_rfl
theorem e_weqStepS (C : Oracle) (a0 a1 : Sl) (H : AH) : (procM P T C (.fn F.weqStepS) [.sc (.sl a0), .sc (.sl a1)] H).run =
  cond ((a0.n : Int) != (a1.n : Int))
  (some ⟨1, [.sc (.bool false)], H⟩)
  ((C (.loop F.weqStepS 0) [.sc (.sl a0), .sc (.sl a1), .sc (.int .i64 0)] H).bind fun r13 =>
   cond (Nat.beq r13.e 1)
   ((nthP r13.vs 0).bind fun p14 =>
    p14.sc?.bind fun c15 =>
    (boolAt [c15] 0).bind fun b16 =>
    some ⟨1, [.sc (.bool b16)], r13.H⟩)
   (cond (Nat.beq r13.e 2)
    (some ⟨1, [.sc (.bool true)], r13.H⟩)
    (none))) := by kernel_rfl
/- loop.example/g03211/laws.eqIntS -/
theorem e_weqIntS_0 (C : Oracle) (x0 x1 : Sl) (x5 : Int) (H : AH) : (procM P T C (.loop F.weqIntS 0) [.sc (.sl x0), .sc (.sl x1), .sc (.int .i64 x5)] H).run =
  cond (decide (x5 < (x0.n : Int)))
  ((ixA x0 x5 1).bind fun o1 =>
   (rdB H x0.b).bind fun c2 =>
   (intAt .i64 c2 o1).bind fun n3 =>
   (ixA x1 x5 1).bind fun o4 =>
   (rdB H x1.b).bind fun c5 =>
   (intAt .i64 c5 o4).bind fun n6 =>
   cond (n3 != n6)
   (some ⟨1, [.sc (.bool false)], H⟩)
   (C (.loop F.weqIntS 0) [.sc (.sl x0), .sc (.sl x1), .sc (.int .i64 (IntKind.wrap .i64 (x5 + 1)))] H))
  (some ⟨2, [], H⟩) := by kernel_rfl
theorem e_weqIntS (C : Oracle) (a0 a1 : Sl) (H : AH) : (procM P T C (.fn F.weqIntS) [.sc (.sl a0), .sc (.sl a1)] H).run =
  cond ((a0.n : Int) != (a1.n : Int))
  (some ⟨1, [.sc (.bool false)], H⟩)
  ((C (.loop F.weqIntS 0) [.sc (.sl a0), .sc (.sl a1), .sc (.int .i64 0)] H).bind fun r7 =>
   cond (Nat.beq r7.e 1)
   ((nthP r7.vs 0).bind fun p8 =>
    p8.sc?.bind fun c9 =>
    (boolAt [c9] 0).bind fun b10 =>
    some ⟨1, [.sc (.bool b10)], r7.H⟩)
   (cond (Nat.beq r7.e 2)
    (some ⟨1, [.sc (.bool true)], r7.H⟩)
    (none))) := by kernel_rfl
/- loop.example/g03211/laws.markNetwork -/
theorem e_wmarkNetwork (C : Oracle) (a0_0 a0_1 a0_2 : Int) (a0_3 a0_4 : Sl) (a1 : Int) (H : AH) : (procM P T C (.fn F.wmarkNetwork) [.agg [.int .i64 a0_0, .int .i64 a0_1, .int .i64 a0_2, .sl a0_3, .sl a0_4], .sc (.int .i64 a1)] H).run =
  (C (.fn F.wmarkTensorS) [.sc (.sl a0_3), .sc (.int .i64 a1)] H).bind fun r1 =>
  (oneP r1.vs).bind fun p2 =>
  p2.sc?.bind fun c3 =>
  (intAt .i64 [c3] 0).bind fun n4 =>
  (C (.fn F.wmarkIntS) [.sc (.sl a0_4), .sc (.int .i64 n4)] r1.H).bind fun r5 =>
  (oneP r5.vs).bind fun p6 =>
  p6.sc?.bind fun c7 =>
  (intAt .i64 [c7] 0).bind fun n8 =>
  some ⟨1, [.sc (.int .i64 n8)], r5.H⟩ := by kernel_rfl
/- loop.example/g03211/laws.markStepS -/
theorem e_wmarkStepS_0 (C : Oracle) (x0 : Sl) (x1 x5 : Int) (H : AH) : (procM P T C (.loop F.wmarkStepS 0) [.sc (.sl x0), .sc (.int .i64 x1), .sc (.int .i64 x5)] H).run =
  cond (decide (x5 < (x0.n : Int)))
  ((ixA x0 x5 2).bind fun o1 =>
   (putR H x0.b (o1 + 0) [.int .i64 x1]).bind fun H2 =>
   (ixA x0 x5 2).bind fun o3 =>
   (putR H2 x0.b (o3 + 1) [.int .i64 (IntKind.wrap .i64 (x1 + 1))]).bind fun H4 =>
   C (.loop F.wmarkStepS 0) [.sc (.sl x0), .sc (.int .i64 (IntKind.wrap .i64 ((IntKind.wrap .i64 (x1 + 1)) + 1))), .sc (.int .i64 (IntKind.wrap .i64 (x5 + 1)))] H4)
  (some ⟨2, [.sc (.int .i64 x1)], H⟩) := by kernel_rfl
theorem e_wmarkStepS (C : Oracle) (a0 : Sl) (a1 : Int) (H : AH) : (procM P T C (.fn F.wmarkStepS) [.sc (.sl a0), .sc (.int .i64 a1)] H).run =
  (C (.loop F.wmarkStepS 0) [.sc (.sl a0), .sc (.int .i64 a1), .sc (.int .i64 0)] H).bind fun r5 =>
  cond (Nat.beq r5.e 2)
  ((nthP r5.vs 0).bind fun p6 =>
   p6.sc?.bind fun c7 =>
   (intAt .i64 [c7] 0).bind fun n8 =>
   some ⟨1, [.sc (.int .i64 n8)], r5.H⟩)
  (none) := by kernel_rfl
/- loop.example/g03211/laws.markIntS -/
theorem e_wmarkIntS_0 (C : Oracle) (x0 : Sl) (x1 x5 : Int) (H : AH) : (procM P T C (.loop F.wmarkIntS 0) [.sc (.sl x0), .sc (.int .i64 x1), .sc (.int .i64 x5)] H).run =
  cond (decide (x5 < (x0.n : Int)))
  ((ixA x0 x5 1).bind fun o1 =>
   (putR H x0.b o1 [.int .i64 x1]).bind fun H2 =>
   C (.loop F.wmarkIntS 0) [.sc (.sl x0), .sc (.int .i64 (IntKind.wrap .i64 (x1 + 1))), .sc (.int .i64 (IntKind.wrap .i64 (x5 + 1)))] H2)
  (some ⟨2, [.sc (.int .i64 x1)], H⟩) := by kernel_rfl
theorem e_wmarkIntS (C : Oracle) (a0 : Sl) (a1 : Int) (H : AH) : (procM P T C (.fn F.wmarkIntS) [.sc (.sl a0), .sc (.int .i64 a1)] H).run =
  (C (.loop F.wmarkIntS 0) [.sc (.sl a0), .sc (.int .i64 a1), .sc (.int .i64 0)] H).bind fun r3 =>
  cond (Nat.beq r3.e 2)
  ((nthP r3.vs 0).bind fun p4 =>
   p4.sc?.bind fun c5 =>
   (intAt .i64 [c5] 0).bind fun n6 =>
   some ⟨1, [.sc (.int .i64 n6)], r3.H⟩)
  (none) := by kernel_rfl
/- loop.example/g03211/laws.markPlan -/
theorem e_wmarkPlan (C : Oracle) (a0_0 a0_1 : Sl) (a0_2 a0_3 a1 : Int) (H : AH) : (procM P T C (.fn F.wmarkPlan) [.agg [.sl a0_0, .sl a0_1, .int .i64 a0_2, .int .i64 a0_3], .sc (.int .i64 a1)] H).run =
  (C (.fn F.wmarkStepS) [.sc (.sl a0_0), .sc (.int .i64 a1)] H).bind fun r1 =>
  (oneP r1.vs).bind fun p2 =>
  p2.sc?.bind fun c3 =>
  (intAt .i64 [c3] 0).bind fun n4 =>
  (C (.fn F.wmarkIntS) [.sc (.sl a0_1), .sc (.int .i64 n4)] r1.H).bind fun r5 =>
  (oneP r5.vs).bind fun p6 =>
  p6.sc?.bind fun c7 =>
  (intAt .i64 [c7] 0).bind fun n8 =>
  some ⟨1, [.sc (.int .i64 n8)], r5.H⟩ := by kernel_rfl
/- loop.example/g03211/laws.heldPlan -/
theorem e_wheldPlan (C : Oracle) (a0_0 a0_1 : Sl) (a0_2 a0_3 a1 : Int) (H : AH) : (procM P T C (.fn F.wheldPlan) [.agg [.sl a0_0, .sl a0_1, .int .i64 a0_2, .int .i64 a0_3], .sc (.int .i64 a1)] H).run =
  (C (.fn F.wheldStepS) [.sc (.sl a0_0), .sc (.int .i64 a1)] H).bind fun r1 =>
  (oneP r1.vs).bind fun p2 =>
  p2.sc?.bind fun c3 =>
  (intAt .i64 [c3] 0).bind fun n4 =>
  cond (decide (n4 < 0))
  (some ⟨1, [.sc (.int .i64 (-1))], r1.H⟩)
  ((C (.fn F.wheldIntS) [.sc (.sl a0_1), .sc (.int .i64 n4)] r1.H).bind fun r5 =>
   (oneP r5.vs).bind fun p6 =>
   p6.sc?.bind fun c7 =>
   (intAt .i64 [c7] 0).bind fun n8 =>
   cond (decide (n8 < 0))
   (some ⟨1, [.sc (.int .i64 (-1))], r5.H⟩)
   (some ⟨1, [.sc (.int .i64 n8)], r5.H⟩)) := by kernel_rfl
/- loop.example/g03211/laws.szTensorS -/
theorem e_wszTensorS_0 (C : Oracle) (x0 : Sl) (x1 x5 : Int) (H : AH) : (procM P T C (.loop F.wszTensorS 0) [.sc (.sl x0), .sc (.int .i64 x1), .sc (.int .i64 x5)] H).run =
  cond (decide (x5 < (x0.n : Int)))
  ((ixA x0 x5 3).bind fun o1 =>
   (rdB H x0.b).bind fun c2 =>
   (slAt c2 o1).bind fun s3 =>
   (slAt c2 (o1 + 1)).bind fun s4 =>
   (slAt c2 (o1 + 1 + 1)).bind fun s5 =>
   (C (.fn F.wszTensor) [.agg [.sl s3, .sl s4, .sl s5], .sc (.int .i64 x1)] H).bind fun r6 =>
   (oneP r6.vs).bind fun p7 =>
   p7.sc?.bind fun c8 =>
   (intAt .i64 [c8] 0).bind fun n9 =>
   cond (decide (n9 < 0))
   (some ⟨1, [.sc (.int .i64 (-1))], r6.H⟩)
   (C (.loop F.wszTensorS 0) [.sc (.sl x0), .sc (.int .i64 n9), .sc (.int .i64 (IntKind.wrap .i64 (x5 + 1)))] r6.H))
  (some ⟨2, [.sc (.int .i64 x1)], H⟩) := by kernel_rfl
theorem e_wszTensorS (C : Oracle) (a0 : Sl) (a1 : Int) (H : AH) : (procM P T C (.fn F.wszTensorS) [.sc (.sl a0), .sc (.int .i64 a1)] H).run =
  cond (decide ((IntKind.wrap .i64 (a1 - (a0.n : Int))) < 0))
  (some ⟨1, [.sc (.int .i64 (-1))], H⟩)
  ((C (.loop F.wszTensorS 0) [.sc (.sl a0), .sc (.int .i64 (IntKind.wrap .i64 (a1 - (a0.n : Int)))), .sc (.int .i64 0)] H).bind fun r10 =>
   cond (Nat.beq r10.e 1)
   ((nthP r10.vs 0).bind fun p11 =>
    p11.sc?.bind fun c12 =>
    (intAt .i64 [c12] 0).bind fun n13 =>
    some ⟨1, [.sc (.int .i64 n13)], r10.H⟩)
   (cond (Nat.beq r10.e 2)
    ((nthP r10.vs 0).bind fun p14 =>
     p14.sc?.bind fun c15 =>
     (intAt .i64 [c15] 0).bind fun n16 =>
     some ⟨1, [.sc (.int .i64 n16)], r10.H⟩)
    (none))) := by kernel_rfl
/- loop.example/g03211/laws.szIntS -/
theorem e_wszIntS (C : Oracle) (a0 : Sl) (a1 : Int) (H : AH) : (procM P T C (.fn F.wszIntS) [.sc (.sl a0), .sc (.int .i64 a1)] H).run =
  cond (decide ((IntKind.wrap .i64 (a1 - (a0.n : Int))) < 0))
  (some ⟨1, [.sc (.int .i64 (-1))], H⟩)
  (some ⟨1, [.sc (.int .i64 (IntKind.wrap .i64 (a1 - (a0.n : Int))))], H⟩) := by kernel_rfl
/- loop.example/g03211/laws.toRing -/
theorem e_wtoRing (C : Oracle) (a0_0 a0_1 a0_2 : Int) (H : AH) : (procM P T C (.fn F.wtoRing) [.agg [.int .i64 a0_0, .int .i64 a0_1, .int .i64 a0_2]] H).run =
  some ⟨1, [.agg [.int .i64 a0_0, .int .i64 a0_1, .int .i64 a0_2]], H⟩ := by kernel_rfl
/- loop.example/g03211/laws.toTensorS -/
theorem e_wtoTensorS_0 (C : Oracle) (x0 x3 : Sl) (x4 : Int) (H : AH) : (procM P T C (.loop F.wtoTensorS 0) [.sc (.sl x0), .sc (.sl x3), .sc (.int .i64 x4)] H).run =
  cond (decide (x4 < (x0.n : Int)))
  ((ixA x0 x4 3).bind fun o2 =>
   (rdB H x0.b).bind fun c3 =>
   (slAt c3 o2).bind fun s4 =>
   (slAt c3 (o2 + 1)).bind fun s5 =>
   (slAt c3 (o2 + 1 + 1)).bind fun s6 =>
   (C (.fn F.wtoTensor) [.agg [.sl s4, .sl s5, .sl s6]] H).bind fun r7 =>
   (oneP r7.vs).bind fun p8 =>
   p8.agg?.bind fun l9 =>
   cond (decide (l9.length = 3))
   ((slAt l9 0).bind fun s10 =>
    (slAt l9 1).bind fun s11 =>
    (slAt l9 2).bind fun s12 =>
    (ixA x3 x4 3).bind fun o13 =>
    (putR r7.H x3.b o13 [.sl s10, .sl s11, .sl s12]).bind fun H14 =>
    C (.loop F.wtoTensorS 0) [.sc (.sl x0), .sc (.sl x3), .sc (.int .i64 (IntKind.wrap .i64 (x4 + 1)))] H14)
   (none))
  (some ⟨2, [], H⟩) := by kernel_rfl
theorem e_wtoTensorS (C : Oracle) (a0 : Sl) (H : AH) : (procM P T C (.fn F.wtoTensorS) [.sc (.sl a0)] H).run =
  (mkB H 3 72 [.sl ⟨0, 0, 0, 0, true⟩, .sl ⟨0, 0, 0, 0, true⟩, .sl ⟨0, 0, 0, 0, true⟩] (a0.n : Int) (a0.n : Int)).bind fun m1 =>
  (C (.loop F.wtoTensorS 0) [.sc (.sl a0), .sc (.sl m1.1), .sc (.int .i64 0)] m1.2).bind fun r15 =>
  cond (Nat.beq r15.e 2)
  (some ⟨1, [.sc (.sl m1.1)], r15.H⟩)
  (none) := by kernel_rfl
/- loop.example/g03211/laws.eqRing -/
theorem e_weqRing (C : Oracle) (a0_0 a0_1 a0_2 a1_0 a1_1 a1_2 : Int) (H : AH) : (procM P T C (.fn F.weqRing) [.agg [.int .i64 a0_0, .int .i64 a0_1, .int .i64 a0_2], .agg [.int .i64 a1_0, .int .i64 a1_1, .int .i64 a1_2]] H).run =
  cond (a0_0 != a1_0)
  (some ⟨1, [.sc (.bool false)], H⟩)
  (cond (a0_1 != a1_1)
   (some ⟨1, [.sc (.bool false)], H⟩)
   (cond (a0_2 != a1_2)
    (some ⟨1, [.sc (.bool false)], H⟩)
    (some ⟨1, [.sc (.bool true)], H⟩))) := by kernel_rfl
/- loop.example/g03211/laws.eqTensorS -/
theorem e_weqTensorS_0 (C : Oracle) (x0 x1 : Sl) (x5 : Int) (H : AH) : (procM P T C (.loop F.weqTensorS 0) [.sc (.sl x0), .sc (.sl x1), .sc (.int .i64 x5)] H).run =
  cond (decide (x5 < (x0.n : Int)))
  ((ixA x0 x5 3).bind fun o1 =>
   (rdB H x0.b).bind fun c2 =>
   (slAt c2 o1).bind fun s3 =>
   (slAt c2 (o1 + 1)).bind fun s4 =>
   (slAt c2 (o1 + 1 + 1)).bind fun s5 =>
   (ixA x1 x5 3).bind fun o6 =>
   (rdB H x1.b).bind fun c7 =>
   (slAt c7 o6).bind fun s8 =>
   (slAt c7 (o6 + 1)).bind fun s9 =>
   (slAt c7 (o6 + 1 + 1)).bind fun s10 =>
   (C (.fn F.weqTensor) [.agg [.sl s3, .sl s4, .sl s5], .agg [.sl s8, .sl s9, .sl s10]] H).bind fun r11 =>
   (oneP r11.vs).bind fun p12 =>
   p12.sc?.bind fun c13 =>
   (boolAt [c13] 0).bind fun b14 =>
   cond (!b14)
   (some ⟨1, [.sc (.bool false)], r11.H⟩)
   (C (.loop F.weqTensorS 0) [.sc (.sl x0), .sc (.sl x1), .sc (.int .i64 (IntKind.wrap .i64 (x5 + 1)))] r11.H))
  (some ⟨2, [], H⟩) := by kernel_rfl
theorem e_weqTensorS (C : Oracle) (a0 a1 : Sl) (H : AH) : (procM P T C (.fn F.weqTensorS) [.sc (.sl a0), .sc (.sl a1)] H).run =
  cond ((a0.n : Int) != (a1.n : Int))
  (some ⟨1, [.sc (.bool false)], H⟩)
  ((C (.loop F.weqTensorS 0) [.sc (.sl a0), .sc (.sl a1), .sc (.int .i64 0)] H).bind fun r15 =>
   cond (Nat.beq r15.e 1)
   ((nthP r15.vs 0).bind fun p16 =>
    p16.sc?.bind fun c17 =>
    (boolAt [c17] 0).bind fun b18 =>
    some ⟨1, [.sc (.bool b18)], r15.H⟩)
   (cond (Nat.beq r15.e 2)
    (some ⟨1, [.sc (.bool true)], r15.H⟩)
    (none))) := by kernel_rfl
/- loop.example/g03211/spec.l17Peak -/
theorem e_sl17Peak_0 (C : Oracle) (x7 : Int) (x19 : Sl) (x20 x21 : Int) (H : AH) : (procM P T C (.loop F.sl17Peak 0) [.sc (.int .i64 x7), .sc (.sl x19), .sc (.int .i64 x20), .sc (.int .i64 x21)] H).run =
  cond (decide (x21 < x20))
  ((ixA x19 x21 3).bind fun o10 =>
   (rdB H x19.b).bind fun c11 =>
   (slAt c11 o10).bind fun s12 =>
   (slAt c11 (o10 + 1)).bind fun s13 =>
   (slAt c11 (o10 + 1 + 1)).bind fun s14 =>
   (C (.fn F.sl05Product) [.sc (.sl s13), .sc (.int .i64 1000000000)] H).bind fun r15 =>
   (oneP r15.vs).bind fun p16 =>
   p16.sc?.bind fun c17 =>
   (intAt .i64 [c17] 0).bind fun n18 =>
   C (.loop F.sl17Peak 0) [.sc (.int .i64 (if (if n18 < 1000000000 then n18 else 1000000000) > x7 then (if n18 < 1000000000 then n18 else 1000000000) else x7)), .sc (.sl x19), .sc (.int .i64 x20), .sc (.int .i64 (IntKind.wrap .i64 (x21 + 1)))] r15.H)
  (some ⟨2, [.sc (.int .i64 x7)], H⟩) := by kernel_rfl
theorem e_sl17Peak (C : Oracle) (a0_0 a0_1 a0_2 : Int) (a0_3 a0_4 a1 : Sl) (H : AH) : (procM P T C (.fn F.sl17Peak) [.agg [.int .i64 a0_0, .int .i64 a0_1, .int .i64 a0_2, .sl a0_3, .sl a0_4], .sc (.sl a1)] H).run =
  (C (.fn F.sl17Run) [.agg [.int .i64 a0_0, .int .i64 a0_1, .int .i64 a0_2, .sl a0_3, .sl a0_4], .sc (.sl a1)] H).bind fun r1 =>
  (lenP r1.vs 2).bind fun _ =>
  (nthP r1.vs 0).bind fun p2 =>
  p2.sc?.bind fun c3 =>
  (ptrAt [c3] 0).bind fun p4 =>
  (nthP r1.vs 1).bind fun p5 =>
  p5.sc?.bind fun c6 =>
  (slAt [c6] 0).bind fun s7 =>
  (rdB r1.H p4.1).bind fun c8 =>
  (slAt c8 (p4.2 + 0)).bind fun s9 =>
  (C (.loop F.sl17Peak 0) [.sc (.int .i64 1), .sc (.sl s9), .sc (.int .i64 (s9.n : Int)), .sc (.int .i64 0)] r1.H).bind fun r19 =>
  cond (Nat.beq r19.e 2)
  ((nthP r19.vs 0).bind fun p20 =>
   p20.sc?.bind fun c21 =>
   (intAt .i64 [c21] 0).bind fun n22 =>
   some ⟨1, [.sc (.int .i64 n22)], r19.H⟩)
  (none) := by kernel_rfl
/- loop.example/g03211/impl.OrderPeak -/
theorem e_iOrderPeak_0 (C : Oracle) (x5b x5o : Nat) (x6 : Int) (x20 : Sl) (x21 x22 : Int) (H : AH) : (procM P T C (.loop F.iOrderPeak 0) [.sc (.hp x5b x5o), .sc (.int .i64 x6), .sc (.sl x20), .sc (.int .i64 x21), .sc (.int .i64 x22)] H).run =
  cond (decide (x22 < x21))
  ((ixA x20 x22 2).bind fun o11 =>
   (rdB H x20.b).bind fun c12 =>
   (intAt .i64 c12 o11).bind fun n13 =>
   (slAt c12 (o11 + 1)).bind fun s14 =>
   (C (.fn F.x__impl_orderState__size) [.sc (.hp x5b x5o), .sc (.sl s14)] H).bind fun r15 =>
   (oneP r15.vs).bind fun p16 =>
   p16.sc?.bind fun c17 =>
   (intAt .i64 [c17] 0).bind fun n18 =>
   C (.loop F.iOrderPeak 0) [.sc (.hp x5b x5o), .sc (.int .i64 (if n18 > x6 then n18 else x6)), .sc (.sl x20), .sc (.int .i64 x21), .sc (.int .i64 (IntKind.wrap .i64 (x22 + 1)))] r15.H)
  (some ⟨2, [.sc (.int .i64 x6)], H⟩) := by kernel_rfl
theorem e_iOrderPeak_1 (C : Oracle) (x5b x5o : Nat) (x6 : Int) (x33 : Sl) (x34 x35 : Int) (H : AH) : (procM P T C (.loop F.iOrderPeak 1) [.sc (.hp x5b x5o), .sc (.int .i64 x6), .sc (.sl x33), .sc (.int .i64 x34), .sc (.int .i64 x35)] H).run =
  cond (decide (x35 < x34))
  ((ixA x33 x35 2).bind fun o23 =>
   (rdB H x33.b).bind fun c24 =>
   (intAt .i64 c24 o23).bind fun n25 =>
   (intAt .i64 c24 (o23 + 1)).bind fun n26 =>
   (C (.fn F.x__impl_orderState__follow) [.sc (.hp x5b x5o), .agg [.int .i64 n25, .int .i64 n26]] H).bind fun r27 =>
   (oneP r27.vs).bind fun p28 =>
   p28.sc?.bind fun c29 =>
   (boolAt [c29] 0).bind fun b30 =>
   (rdB r27.H x5b).bind fun c31 =>
   (slAt c31 (x5o + 101)).bind fun s32 =>
   (rdB r27.H x5b).bind fun c33 =>
   (slAt c33 (x5o + 101)).bind fun s34 =>
   (ixA s32 (IntKind.wrap .i64 ((s34.n : Int) - 1)) 2).bind fun o35 =>
   (rdB r27.H s32.b).bind fun c36 =>
   (slAt c36 (o35 + 1)).bind fun s37 =>
   (C (.fn F.x__impl_orderState__size) [.sc (.hp x5b x5o), .sc (.sl s37)] r27.H).bind fun r38 =>
   (oneP r38.vs).bind fun p39 =>
   p39.sc?.bind fun c40 =>
   (intAt .i64 [c40] 0).bind fun n41 =>
   C (.loop F.iOrderPeak 1) [.sc (.hp x5b x5o), .sc (.int .i64 (if n41 > x6 then n41 else x6)), .sc (.sl x33), .sc (.int .i64 x34), .sc (.int .i64 (IntKind.wrap .i64 (x35 + 1)))] r38.H)
  (some ⟨4, [.sc (.int .i64 x6)], H⟩) := by kernel_rfl
theorem e_iOrderPeak (C : Oracle) (a0_0 a0_1 a0_2 : Int) (a0_3 a0_4 a1 : Sl) (H : AH) : (procM P T C (.fn F.iOrderPeak) [.agg [.int .i64 a0_0, .int .i64 a0_1, .int .i64 a0_2, .sl a0_3, .sl a0_4], .sc (.sl a1)] H).run =
  (C (.fn F.iOrderOk) [.agg [.int .i64 a0_0, .int .i64 a0_1, .int .i64 a0_2, .sl a0_3, .sl a0_4], .sc (.sl a1)] H).bind fun r1 =>
  (oneP r1.vs).bind fun p2 =>
  p2.sc?.bind fun c3 =>
  (boolAt [c3] 0).bind fun b4 =>
  cond (!b4)
  (some ⟨1, [.sc (.int .i64 (-1))], r1.H⟩)
  ((C (.fn F.istartState) [.agg [.int .i64 a0_0, .int .i64 a0_1, .int .i64 a0_2, .sl a0_3, .sl a0_4]] r1.H).bind fun r5 =>
   (oneP r5.vs).bind fun p6 =>
   p6.sc?.bind fun c7 =>
   (ptrAt [c7] 0).bind fun p8 =>
   (rdB r5.H p8.1).bind fun c9 =>
   (slAt c9 (p8.2 + 101)).bind fun s10 =>
   (C (.loop F.iOrderPeak 0) [.sc (.hp p8.1 p8.2), .sc (.int .i64 1), .sc (.sl s10), .sc (.int .i64 (s10.n : Int)), .sc (.int .i64 0)] r5.H).bind fun r19 =>
   cond (Nat.beq r19.e 2)
   ((nthP r19.vs 0).bind fun p20 =>
    p20.sc?.bind fun c21 =>
    (intAt .i64 [c21] 0).bind fun n22 =>
    (C (.loop F.iOrderPeak 1) [.sc (.hp p8.1 p8.2), .sc (.int .i64 n22), .sc (.sl a1), .sc (.int .i64 (a1.n : Int)), .sc (.int .i64 0)] r19.H).bind fun r42 =>
    cond (Nat.beq r42.e 4)
    ((nthP r42.vs 0).bind fun p43 =>
     p43.sc?.bind fun c44 =>
     (intAt .i64 [c44] 0).bind fun n45 =>
     some ⟨1, [.sc (.int .i64 n45)], r42.H⟩)
    (none))
   (none)) := by kernel_rfl
/- loop.example/g03211/spec.SliceCount -/
theorem e_sSliceCount_0 (C : Oracle) (x1 x5 x18 : Sl) (x19 x20 : Int) (H : AH) : (procM P T C (.loop F.sSliceCount 0) [.sc (.sl x1), .sc (.sl x5), .sc (.sl x18), .sc (.int .i64 x19), .sc (.int .i64 x20)] H).run =
  cond (decide (x20 < x19))
  ((ixA x18 x20 1).bind fun o9 =>
   (rdB H x18.b).bind fun c10 =>
   (intAt .i64 c10 o9).bind fun n11 =>
   (C (.fn F.sl05Find) [.sc (.sl x5), .sc (.int .i64 n11)] H).bind fun r12 =>
   (oneP r12.vs).bind fun p13 =>
   p13.sc?.bind fun c14 =>
   (intAt .i64 [c14] 0).bind fun n15 =>
   cond (decide (n15 < 0))
   (some ⟨1, [.sc (.int .i64 (-1))], r12.H⟩)
   ((slB x1 none (some x20) none 1).bind fun s16 =>
    (C (.fn F.sl05Find) [.sc (.sl s16), .sc (.int .i64 n11)] r12.H).bind fun r17 =>
    (oneP r17.vs).bind fun p18 =>
    p18.sc?.bind fun c19 =>
    (intAt .i64 [c19] 0).bind fun n20 =>
    cond (decide (n20 ≥ 0))
    (some ⟨1, [.sc (.int .i64 (-1))], r17.H⟩)
    (C (.loop F.sSliceCount 0) [.sc (.sl x1), .sc (.sl x5), .sc (.sl x18), .sc (.int .i64 x19), .sc (.int .i64 (IntKind.wrap .i64 (x20 + 1)))] r17.H)))
  (some ⟨2, [], H⟩) := by kernel_rfl
theorem e_sSliceCount (C : Oracle) (a0_0 a0_1 a0_2 : Int) (a0_3 a0_4 a1 : Sl) (H : AH) : (procM P T C (.fn F.sSliceCount) [.agg [.int .i64 a0_0, .int .i64 a0_1, .int .i64 a0_2, .sl a0_3, .sl a0_4], .sc (.sl a1)] H).run =
  (C (.fn F.sNetworkOk) [.agg [.int .i64 a0_0, .int .i64 a0_1, .int .i64 a0_2, .sl a0_3, .sl a0_4]] H).bind fun r1 =>
  (oneP r1.vs).bind fun p2 =>
  p2.sc?.bind fun c3 =>
  (boolAt [c3] 0).bind fun b4 =>
  cond (!b4)
  (some ⟨1, [.sc (.int .i64 (-1))], r1.H⟩)
  (cond (decide ((a1.n : Int) > 4))
   (some ⟨1, [.sc (.int .i64 (-1))], r1.H⟩)
   ((C (.fn F.sl21Closed) [.agg [.int .i64 a0_0, .int .i64 a0_1, .int .i64 a0_2, .sl a0_3, .sl a0_4]] r1.H).bind fun r5 =>
    (oneP r5.vs).bind fun p6 =>
    p6.sc?.bind fun c7 =>
    (slAt [c7] 0).bind fun s8 =>
    (C (.loop F.sSliceCount 0) [.sc (.sl a1), .sc (.sl s8), .sc (.sl a1), .sc (.int .i64 (a1.n : Int)), .sc (.int .i64 0)] r5.H).bind fun r21 =>
    cond (Nat.beq r21.e 1)
    ((nthP r21.vs 0).bind fun p22 =>
     p22.sc?.bind fun c23 =>
     (intAt .i64 [c23] 0).bind fun n24 =>
     some ⟨1, [.sc (.int .i64 n24)], r21.H⟩)
    (cond (Nat.beq r21.e 2)
     ((C (.fn F.sl12Dims) [.sc (.sl a0_3), .sc (.sl a1)] r21.H).bind fun r25 =>
      (oneP r25.vs).bind fun p26 =>
      p26.sc?.bind fun c27 =>
      (slAt [c27] 0).bind fun s28 =>
      (C (.fn F.sl05Product) [.sc (.sl s28), .sc (.int .i64 65536)] r25.H).bind fun r29 =>
      (oneP r29.vs).bind fun p30 =>
      p30.sc?.bind fun c31 =>
      (intAt .i64 [c31] 0).bind fun n32 =>
      some ⟨1, [.sc (.int .i64 n32)], r29.H⟩)
     (none)))) := by kernel_rfl
/- loop.example/g03211/spec.OrderOk -/
theorem e_sOrderOk_0 (C : Oracle) (x5 : Int) (x6 x28 : Sl) (x29 x30 : Int) (H : AH) : (procM P T C (.loop F.sOrderOk 0) [.sc (.int .i64 x5), .sc (.sl x6), .sc (.sl x28), .sc (.int .i64 x29), .sc (.int .i64 x30)] H).run =
  cond (decide (x30 < x29))
  ((ixA x28 x30 2).bind fun o6 =>
   (rdB H x28.b).bind fun c7 =>
   (intAt .i64 c7 o6).bind fun n8 =>
   (intAt .i64 c7 (o6 + 1)).bind fun n9 =>
   cond (decide (n8 < 0))
   (some ⟨1, [.sc (.bool false)], H⟩)
   (cond (decide (n8 ≥ n9))
    (some ⟨1, [.sc (.bool false)], H⟩)
    (cond (decide (n9 ≥ (IntKind.wrap .i64 (x5 + x30))))
     (some ⟨1, [.sc (.bool false)], H⟩)
     ((ixA x6 n8 1).bind fun o10 =>
      (rdB H x6.b).bind fun c11 =>
      (boolAt c11 o10).bind fun b12 =>
      cond b12
      (some ⟨1, [.sc (.bool false)], H⟩)
      ((ixA x6 n9 1).bind fun o13 =>
       (rdB H x6.b).bind fun c14 =>
       (boolAt c14 o13).bind fun b15 =>
       cond b15
       (some ⟨1, [.sc (.bool false)], H⟩)
       ((ixA x6 n8 1).bind fun o16 =>
        (putR H x6.b o16 [.bool true]).bind fun H17 =>
        (ixA x6 n9 1).bind fun o18 =>
        (putR H17 x6.b o18 [.bool true]).bind fun H19 =>
        C (.loop F.sOrderOk 0) [.sc (.int .i64 x5), .sc (.sl x6), .sc (.sl x28), .sc (.int .i64 x29), .sc (.int .i64 (IntKind.wrap .i64 (x30 + 1)))] H19))))))
  (some ⟨2, [], H⟩) := by kernel_rfl
theorem e_sOrderOk (C : Oracle) (a0_0 a0_1 a0_2 : Int) (a0_3 a0_4 a1 : Sl) (H : AH) : (procM P T C (.fn F.sOrderOk) [.agg [.int .i64 a0_0, .int .i64 a0_1, .int .i64 a0_2, .sl a0_3, .sl a0_4], .sc (.sl a1)] H).run =
  (C (.fn F.sNetworkOk) [.agg [.int .i64 a0_0, .int .i64 a0_1, .int .i64 a0_2, .sl a0_3, .sl a0_4]] H).bind fun r1 =>
  (oneP r1.vs).bind fun p2 =>
  p2.sc?.bind fun c3 =>
  (boolAt [c3] 0).bind fun b4 =>
  cond (!b4)
  (some ⟨1, [.sc (.bool false)], r1.H⟩)
  (cond ((a1.n : Int) != (if IntKind.wrap .i64 ((a0_3.n : Int) - 1) > 0 then IntKind.wrap .i64 ((a0_3.n : Int) - 1) else 0))
   (some ⟨1, [.sc (.bool false)], r1.H⟩)
   ((mkB r1.H 1 1 [.bool false] (IntKind.wrap .i64 ((a0_3.n : Int) + (a1.n : Int))) (IntKind.wrap .i64 ((a0_3.n : Int) + (a1.n : Int)))).bind fun m5 =>
    (C (.loop F.sOrderOk 0) [.sc (.int .i64 (a0_3.n : Int)), .sc (.sl m5.1), .sc (.sl a1), .sc (.int .i64 (a1.n : Int)), .sc (.int .i64 0)] m5.2).bind fun r20 =>
    cond (Nat.beq r20.e 1)
    ((nthP r20.vs 0).bind fun p21 =>
     p21.sc?.bind fun c22 =>
     (boolAt [c22] 0).bind fun b23 =>
     some ⟨1, [.sc (.bool b23)], r20.H⟩)
    (cond (Nat.beq r20.e 2)
     (some ⟨1, [.sc (.bool true)], r20.H⟩)
     (none)))) := by kernel_rfl
/- loop.example/g03211/spec.l15Slice -/
theorem e_sl15Slice_0 (C : Oracle) (x1 x16 : Sl) (x17 x18 y7_0 y7_1 y7_2 : Int) (y7_3 y7_4 : Sl) (H : AH) : (procM P T C (.loop F.sl15Slice 0) [.sc (.sl x1), .sc (.sl x16), .sc (.int .i64 x17), .sc (.int .i64 x18), .agg [.int .i64 y7_0, .int .i64 y7_1, .int .i64 y7_2, .sl y7_3, .sl y7_4]] H).run =
  cond (decide (x18 < x17))
  ((ixA x16 x18 1).bind fun o1 =>
   (rdB H x16.b).bind fun c2 =>
   (intAt .i64 c2 o1).bind fun n3 =>
   (C (.fn F.sl05Find) [.sc (.sl x1), .sc (.int .i64 n3)] H).bind fun r4 =>
   (oneP r4.vs).bind fun p5 =>
   p5.sc?.bind fun c6 =>
   (intAt .i64 [c6] 0).bind fun n7 =>
   cond (decide (n7 < 0))
   ((newB r4.H 1 [.int .i64 n3]).bind fun h8 =>
    (rng h8.2 h8.1 0 (1 * 1)).bind fun l9 =>
    (appB h8.2 1 8 y7_4 l9 1).bind fun m10 =>
    C (.loop F.sl15Slice 0) [.sc (.sl x1), .sc (.sl x16), .sc (.int .i64 x17), .sc (.int .i64 (IntKind.wrap .i64 (x18 + 1))), .agg [.int .i64 y7_0, .int .i64 y7_1, .int .i64 y7_2, .sl y7_3, .sl m10.1]] m10.2)
   (C (.loop F.sl15Slice 0) [.sc (.sl x1), .sc (.sl x16), .sc (.int .i64 x17), .sc (.int .i64 (IntKind.wrap .i64 (x18 + 1))), .agg [.int .i64 y7_0, .int .i64 y7_1, .int .i64 y7_2, .sl y7_3, .sl y7_4]] r4.H))
  (some ⟨2, [.agg [.int .i64 y7_0, .int .i64 y7_1, .int .i64 y7_2, .sl y7_3, .sl y7_4]], H⟩) := by kernel_rfl
theorem e_sl15Slice_1 (C : Oracle) (x1 x2 x34 : Sl) (x35 x36 y3_0 y3_1 y3_2 : Int) (y3_3 y3_4 : Sl) (y7_0 y7_1 y7_2 : Int) (y7_3 y7_4 : Sl) (H : AH) : (procM P T C (.loop F.sl15Slice 1) [.sc (.sl x1), .sc (.sl x2), .sc (.sl x34), .sc (.int .i64 x35), .sc (.int .i64 x36), .agg [.int .i64 y3_0, .int .i64 y3_1, .int .i64 y3_2, .sl y3_3, .sl y3_4], .agg [.int .i64 y7_0, .int .i64 y7_1, .int .i64 y7_2, .sl y7_3, .sl y7_4]] H).run =
  cond (decide (x36 < x35))
  ((ixA x34 x36 3).bind fun o18 =>
   (rdB H x34.b).bind fun c19 =>
   (slAt c19 o18).bind fun s20 =>
   (slAt c19 (o18 + 1)).bind fun s21 =>
   (slAt c19 (o18 + 1 + 1)).bind fun s22 =>
   (C (.fn F.sl09Fix) [.agg [.int .i64 y3_0, .int .i64 y3_1, .int .i64 y3_2], .agg [.sl s20, .sl s21, .sl s22], .sc (.sl x1), .sc (.sl x2)] (reserve H 1)).bind fun r23 =>
   (oneP r23.vs).bind fun p24 =>
   p24.agg?.bind fun l25 =>
   cond (decide (l25.length = 3))
   ((slAt l25 0).bind fun s26 =>
    (slAt l25 1).bind fun s27 =>
    (slAt l25 2).bind fun s28 =>
    (newAt r23.H (H.length + 0) 3 [.sl s26, .sl s27, .sl s28]).bind fun h29 =>
    (rng h29.2 h29.1 0 (1 * 3)).bind fun l30 =>
    (appB h29.2 3 72 y7_3 l30 1).bind fun m31 =>
    C (.loop F.sl15Slice 1) [.sc (.sl x1), .sc (.sl x2), .sc (.sl x34), .sc (.int .i64 x35), .sc (.int .i64 (IntKind.wrap .i64 (x36 + 1))), .agg [.int .i64 y3_0, .int .i64 y3_1, .int .i64 y3_2, .sl y3_3, .sl y3_4], .agg [.int .i64 y7_0, .int .i64 y7_1, .int .i64 y7_2, .sl m31.1, .sl y7_4]] m31.2)
   (none))
  (some ⟨4, [.agg [.int .i64 y7_0, .int .i64 y7_1, .int .i64 y7_2, .sl y7_3, .sl y7_4]], H⟩) := by kernel_rfl
theorem e_sl15Slice (C : Oracle) (a0_0 a0_1 a0_2 : Int) (a0_3 a0_4 a1 a2 : Sl) (H : AH) : (procM P T C (.fn F.sl15Slice) [.agg [.int .i64 a0_0, .int .i64 a0_1, .int .i64 a0_2, .sl a0_3, .sl a0_4], .sc (.sl a1), .sc (.sl a2)] H).run =
  (C (.loop F.sl15Slice 0) [.sc (.sl a1), .sc (.sl a0_4), .sc (.int .i64 (a0_4.n : Int)), .sc (.int .i64 0), .agg [.int .i64 a0_0, .int .i64 a0_1, .int .i64 a0_2, .sl ⟨0, 0, 0, 0, true⟩, .sl ⟨0, 0, 0, 0, true⟩]] H).bind fun r11 =>
  cond (Nat.beq r11.e 2)
  (((nthP r11.vs 0).bind PV.agg?).bind fun l12 =>
   cond (decide (l12.length = 5))
   ((intAt .i64 l12 0).bind fun n13 =>
    (intAt .i64 l12 1).bind fun n14 =>
    (intAt .i64 l12 2).bind fun n15 =>
    (slAt l12 3).bind fun s16 =>
    (slAt l12 4).bind fun s17 =>
    (C (.loop F.sl15Slice 1) [.sc (.sl a1), .sc (.sl a2), .sc (.sl a0_3), .sc (.int .i64 (a0_3.n : Int)), .sc (.int .i64 0), .agg [.int .i64 a0_0, .int .i64 a0_1, .int .i64 a0_2, .sl a0_3, .sl a0_4], .agg [.int .i64 n13, .int .i64 n14, .int .i64 n15, .sl s16, .sl s17]] r11.H).bind fun r32 =>
    cond (Nat.beq r32.e 4)
    (((nthP r32.vs 0).bind PV.agg?).bind fun l33 =>
     cond (decide (l33.length = 5))
     ((intAt .i64 l33 0).bind fun n34 =>
      (intAt .i64 l33 1).bind fun n35 =>
      (intAt .i64 l33 2).bind fun n36 =>
      (slAt l33 3).bind fun s37 =>
      (slAt l33 4).bind fun s38 =>
      some ⟨1, [.agg [.int .i64 n34, .int .i64 n35, .int .i64 n36, .sl s37, .sl s38]], r32.H⟩)
     (none))
    (none))
   (none))
  (none) := by kernel_rfl
/- loop.example/g03211/spec.l05Ints -/
theorem e_sl05Ints (C : Oracle) (a0 : Sl) (H : AH) : (procM P T C (.fn F.sl05Ints) [.sc (.sl a0)] H).run =
  (newB H 1 []).bind fun h1 =>
  (rng h1.2 a0.b a0.o (a0.n * 1)).bind fun l2 =>
  (appB h1.2 1 8 ⟨h1.1, 0, 0, 0, true⟩ l2 a0.n).bind fun m3 =>
  some ⟨1, [.sc (.sl m3.1)], m3.2⟩ := by kernel_rfl
/- loop.example/g03211/spec.l17Cost -/
theorem e_sl17Cost_0 (C : Oracle) (x7 : Int) (x16 : Sl) (x17 x18 : Int) (H : AH) : (procM P T C (.loop F.sl17Cost 0) [.sc (.int .i64 x7), .sc (.sl x16), .sc (.int .i64 x17), .sc (.int .i64 x18)] H).run =
  cond (decide (x18 < x17))
  ((ixA x16 x18 1).bind fun o8 =>
   (rdB H x16.b).bind fun c9 =>
   (intAt .i64 c9 o8).bind fun n10 =>
   C (.loop F.sl17Cost 0) [.sc (.int .i64 (if IntKind.wrap .i64 (x7 + n10) < 1000000000 then IntKind.wrap .i64 (x7 + n10) else 1000000000)), .sc (.sl x16), .sc (.int .i64 x17), .sc (.int .i64 (IntKind.wrap .i64 (x18 + 1)))] H)
  (some ⟨2, [.sc (.int .i64 x7)], H⟩) := by kernel_rfl
theorem e_sl17Cost (C : Oracle) (a0_0 a0_1 a0_2 : Int) (a0_3 a0_4 a1 : Sl) (H : AH) : (procM P T C (.fn F.sl17Cost) [.agg [.int .i64 a0_0, .int .i64 a0_1, .int .i64 a0_2, .sl a0_3, .sl a0_4], .sc (.sl a1)] H).run =
  (C (.fn F.sl17Run) [.agg [.int .i64 a0_0, .int .i64 a0_1, .int .i64 a0_2, .sl a0_3, .sl a0_4], .sc (.sl a1)] H).bind fun r1 =>
  (lenP r1.vs 2).bind fun _ =>
  (nthP r1.vs 0).bind fun p2 =>
  p2.sc?.bind fun c3 =>
  (ptrAt [c3] 0).bind fun p4 =>
  (nthP r1.vs 1).bind fun p5 =>
  p5.sc?.bind fun c6 =>
  (slAt [c6] 0).bind fun s7 =>
  (C (.loop F.sl17Cost 0) [.sc (.int .i64 0), .sc (.sl s7), .sc (.int .i64 (s7.n : Int)), .sc (.int .i64 0)] r1.H).bind fun r11 =>
  cond (Nat.beq r11.e 2)
  ((nthP r11.vs 0).bind fun p12 =>
   p12.sc?.bind fun c13 =>
   (intAt .i64 [c13] 0).bind fun n14 =>
   some ⟨1, [.sc (.int .i64 n14)], r11.H⟩)
  (none) := by kernel_rfl
/- loop.example/g03211/laws.toStep -/
theorem e_wtoStep (C : Oracle) (a0_0 a0_1 : Int) (H : AH) : (procM P T C (.fn F.wtoStep) [.agg [.int .i64 a0_0, .int .i64 a0_1]] H).run =
  some ⟨1, [.agg [.int .i64 a0_0, .int .i64 a0_1]], H⟩ := by kernel_rfl
/- loop.example/g03211/impl.SliceCount -/
theorem e_iSliceCount_0 (C : Oracle) (x1 x5 x21 : Sl) (x22 x23 : Int) (H : AH) : (procM P T C (.loop F.iSliceCount 0) [.sc (.sl x1), .sc (.sl x5), .sc (.sl x21), .sc (.int .i64 x22), .sc (.int .i64 x23)] H).run =
  cond (decide (x23 < x22))
  ((ixA x21 x23 1).bind fun o9 =>
   (rdB H x21.b).bind fun c10 =>
   (intAt .i64 c10 o9).bind fun n11 =>
   (C (.fn F.ihasInt) [.sc (.sl x5), .sc (.int .i64 n11)] H).bind fun r12 =>
   (oneP r12.vs).bind fun p13 =>
   p13.sc?.bind fun c14 =>
   (boolAt [c14] 0).bind fun b15 =>
   cond (!b15)
   (some ⟨1, [.sc (.int .i64 (-1))], r12.H⟩)
   ((slB x1 none (some x23) none 1).bind fun s16 =>
    (C (.fn F.ihasInt) [.sc (.sl s16), .sc (.int .i64 n11)] r12.H).bind fun r17 =>
    (oneP r17.vs).bind fun p18 =>
    p18.sc?.bind fun c19 =>
    (boolAt [c19] 0).bind fun b20 =>
    cond b20
    (some ⟨1, [.sc (.int .i64 (-1))], r17.H⟩)
    (C (.loop F.iSliceCount 0) [.sc (.sl x1), .sc (.sl x5), .sc (.sl x21), .sc (.int .i64 x22), .sc (.int .i64 (IntKind.wrap .i64 (x23 + 1)))] r17.H)))
  (some ⟨2, [], H⟩) := by kernel_rfl
theorem e_iSliceCount (C : Oracle) (a0_0 a0_1 a0_2 : Int) (a0_3 a0_4 a1 : Sl) (H : AH) : (procM P T C (.fn F.iSliceCount) [.agg [.int .i64 a0_0, .int .i64 a0_1, .int .i64 a0_2, .sl a0_3, .sl a0_4], .sc (.sl a1)] H).run =
  (C (.fn F.iNetworkOk) [.agg [.int .i64 a0_0, .int .i64 a0_1, .int .i64 a0_2, .sl a0_3, .sl a0_4]] H).bind fun r1 =>
  (oneP r1.vs).bind fun p2 =>
  p2.sc?.bind fun c3 =>
  (boolAt [c3] 0).bind fun b4 =>
  cond (!b4)
  (some ⟨1, [.sc (.int .i64 (-1))], r1.H⟩)
  (cond (decide ((a1.n : Int) > 4))
   (some ⟨1, [.sc (.int .i64 (-1))], r1.H⟩)
   ((C (.fn F.iClosedLabels) [.agg [.int .i64 a0_0, .int .i64 a0_1, .int .i64 a0_2, .sl a0_3, .sl a0_4]] r1.H).bind fun r5 =>
    (oneP r5.vs).bind fun p6 =>
    p6.sc?.bind fun c7 =>
    (slAt [c7] 0).bind fun s8 =>
    (C (.loop F.iSliceCount 0) [.sc (.sl a1), .sc (.sl s8), .sc (.sl a1), .sc (.int .i64 (a1.n : Int)), .sc (.int .i64 0)] r5.H).bind fun r21 =>
    cond (Nat.beq r21.e 1)
    ((nthP r21.vs 0).bind fun p22 =>
     p22.sc?.bind fun c23 =>
     (intAt .i64 [c23] 0).bind fun n24 =>
     some ⟨1, [.sc (.int .i64 n24)], r21.H⟩)
    (cond (Nat.beq r21.e 2)
     ((C (.fn F.idimsOf) [.sc (.sl a0_3)] r21.H).bind fun r25 =>
      (lenP r25.vs 2).bind fun _ =>
      (nthP r25.vs 0).bind fun p26 =>
      p26.agg?.bind fun l27 =>
      cond (decide (l27.length = 100))
      ((nthP r25.vs 1).bind fun p28 =>
       p28.sc?.bind fun c29 =>
       (boolAt [c29] 0).bind fun b30 =>
       cond (Nat.beq l27.length 100)
       (cond (decide (0 + l27.length ≤ (zc P Y.t100_int).length))
        (cond (decide (100 ≤ (setAll (zc P Y.t100_int) 0 l27).length))
         ((C (.fn F.iaxesOf) [.agg (((setAll (zc P Y.t100_int) 0 l27).drop 0).take 100), .sc (.sl a1)] r25.H).bind fun r31 =>
          (oneP r31.vs).bind fun p32 =>
          p32.agg?.bind fun l33 =>
          cond (decide (l33.length = 3))
          ((slAt l33 0).bind fun s34 =>
           (slAt l33 1).bind fun s35 =>
           (slAt l33 2).bind fun s36 =>
           (C (.fn F.iproductOf) [.sc (.sl s35)] r31.H).bind fun r37 =>
           (oneP r37.vs).bind fun p38 =>
           p38.sc?.bind fun c39 =>
           (intAt .i64 [c39] 0).bind fun n40 =>
           cond (decide (n40 > 65536))
           (some ⟨1, [.sc (.int .i64 (-1))], r37.H⟩)
           (some ⟨1, [.sc (.int .i64 n40)], r37.H⟩))
          (none))
         (none))
        (none))
       (none))
      (none))
     (none)))) := by kernel_rfl
/- loop.example/g03211/impl.OrderOk -/
theorem e_iOrderOk_0 (C : Oracle) (x5b x5o : Nat) (x23 : Sl) (x24 x25 : Int) (H : AH) : (procM P T C (.loop F.iOrderOk 0) [.sc (.hp x5b x5o), .sc (.sl x23), .sc (.int .i64 x24), .sc (.int .i64 x25)] H).run =
  cond (decide (x25 < x24))
  ((ixA x23 x25 2).bind fun o9 =>
   (rdB H x23.b).bind fun c10 =>
   (intAt .i64 c10 o9).bind fun n11 =>
   (intAt .i64 c10 (o9 + 1)).bind fun n12 =>
   (C (.fn F.x__impl_orderState__follow) [.sc (.hp x5b x5o), .agg [.int .i64 n11, .int .i64 n12]] H).bind fun r13 =>
   (oneP r13.vs).bind fun p14 =>
   p14.sc?.bind fun c15 =>
   (boolAt [c15] 0).bind fun b16 =>
   cond (!b16)
   (some ⟨1, [.sc (.bool false)], r13.H⟩)
   (C (.loop F.iOrderOk 0) [.sc (.hp x5b x5o), .sc (.sl x23), .sc (.int .i64 x24), .sc (.int .i64 (IntKind.wrap .i64 (x25 + 1)))] r13.H))
  (some ⟨2, [], H⟩) := by kernel_rfl
theorem e_iOrderOk (C : Oracle) (a0_0 a0_1 a0_2 : Int) (a0_3 a0_4 a1 : Sl) (H : AH) : (procM P T C (.fn F.iOrderOk) [.agg [.int .i64 a0_0, .int .i64 a0_1, .int .i64 a0_2, .sl a0_3, .sl a0_4], .sc (.sl a1)] H).run =
  (C (.fn F.iNetworkOk) [.agg [.int .i64 a0_0, .int .i64 a0_1, .int .i64 a0_2, .sl a0_3, .sl a0_4]] H).bind fun r1 =>
  (oneP r1.vs).bind fun p2 =>
  p2.sc?.bind fun c3 =>
  (boolAt [c3] 0).bind fun b4 =>
  cond (!b4)
  (some ⟨1, [.sc (.bool false)], r1.H⟩)
  (cond ((a1.n : Int) != (if 0 > IntKind.wrap .i64 ((a0_3.n : Int) - 1) then 0 else IntKind.wrap .i64 ((a0_3.n : Int) - 1)))
   (some ⟨1, [.sc (.bool false)], r1.H⟩)
   ((C (.fn F.istartState) [.agg [.int .i64 a0_0, .int .i64 a0_1, .int .i64 a0_2, .sl a0_3, .sl a0_4]] r1.H).bind fun r5 =>
    (oneP r5.vs).bind fun p6 =>
    p6.sc?.bind fun c7 =>
    (ptrAt [c7] 0).bind fun p8 =>
    (C (.loop F.iOrderOk 0) [.sc (.hp p8.1 p8.2), .sc (.sl a1), .sc (.int .i64 (a1.n : Int)), .sc (.int .i64 0)] r5.H).bind fun r17 =>
    cond (Nat.beq r17.e 1)
    ((nthP r17.vs 0).bind fun p18 =>
     p18.sc?.bind fun c19 =>
     (boolAt [c19] 0).bind fun b20 =>
     some ⟨1, [.sc (.bool b20)], r17.H⟩)
    (cond (Nat.beq r17.e 2)
     (some ⟨1, [.sc (.bool true)], r17.H⟩)
     (none)))) := by kernel_rfl
/- loop.example/g03211/impl.OrderCost -/
theorem e_iOrderCost_0 (C : Oracle) (x5 : Int) (x14 : Sl) (x15 x16 : Int) (H : AH) : (procM P T C (.loop F.iOrderCost 0) [.sc (.int .i64 x5), .sc (.sl x14), .sc (.int .i64 x15), .sc (.int .i64 x16)] H).run =
  cond (decide (x16 < x15))
  ((ixA x14 x16 1).bind fun o9 =>
   (rdB H x14.b).bind fun c10 =>
   (intAt .i64 c10 o9).bind fun n11 =>
   C (.loop F.iOrderCost 0) [.sc (.int .i64 (IntKind.wrap .i64 (x5 + n11))), .sc (.sl x14), .sc (.int .i64 x15), .sc (.int .i64 (IntKind.wrap .i64 (x16 + 1)))] H)
  (some ⟨2, [.sc (.int .i64 x5)], H⟩) := by kernel_rfl
theorem e_iOrderCost (C : Oracle) (a0_0 a0_1 a0_2 : Int) (a0_3 a0_4 a1 : Sl) (H : AH) : (procM P T C (.fn F.iOrderCost) [.agg [.int .i64 a0_0, .int .i64 a0_1, .int .i64 a0_2, .sl a0_3, .sl a0_4], .sc (.sl a1)] H).run =
  (C (.fn F.iOrderOk) [.agg [.int .i64 a0_0, .int .i64 a0_1, .int .i64 a0_2, .sl a0_3, .sl a0_4], .sc (.sl a1)] H).bind fun r1 =>
  (oneP r1.vs).bind fun p2 =>
  p2.sc?.bind fun c3 =>
  (boolAt [c3] 0).bind fun b4 =>
  cond (!b4)
  (some ⟨1, [.sc (.int .i64 (-1))], r1.H⟩)
  ((C (.fn F.iOrderCosts) [.agg [.int .i64 a0_0, .int .i64 a0_1, .int .i64 a0_2, .sl a0_3, .sl a0_4], .sc (.sl a1)] r1.H).bind fun r5 =>
   (oneP r5.vs).bind fun p6 =>
   p6.sc?.bind fun c7 =>
   (slAt [c7] 0).bind fun s8 =>
   (C (.loop F.iOrderCost 0) [.sc (.int .i64 0), .sc (.sl s8), .sc (.int .i64 (s8.n : Int)), .sc (.int .i64 0)] r5.H).bind fun r12 =>
   cond (Nat.beq r12.e 2)
   ((nthP r12.vs 0).bind fun p13 =>
    p13.sc?.bind fun c14 =>
    (intAt .i64 [c14] 0).bind fun n15 =>
    some ⟨1, [.sc (.int .i64 (if 1000000000 < n15 then 1000000000 else n15))], r12.H⟩)
   (none)) := by kernel_rfl
/- loop.example/g03211/impl.sliceOf -/
theorem e_isliceOf_0 (C : Oracle) (x9 x26 : Sl) (x27 x28 y10_0 y10_1 y10_2 : Int) (y10_3 y10_4 : Sl) (H : AH) : (procM P T C (.loop F.isliceOf 0) [.sc (.sl x9), .sc (.sl x26), .sc (.int .i64 x27), .sc (.int .i64 x28), .agg [.int .i64 y10_0, .int .i64 y10_1, .int .i64 y10_2, .sl y10_3, .sl y10_4]] H).run =
  cond (decide (x28 < x27))
  ((ixA x26 x28 1).bind fun o17 =>
   (rdB H x26.b).bind fun c18 =>
   (intAt .i64 c18 o17).bind fun n19 =>
   (ixA x9 x28 1).bind fun o20 =>
   (rdB H x9.b).bind fun c21 =>
   (intAt .i64 c21 o20).bind fun n22 =>
   (C (.fn F.iSliceNetwork) [.agg [.int .i64 y10_0, .int .i64 y10_1, .int .i64 y10_2, .sl y10_3, .sl y10_4], .sc (.int .i64 n19), .sc (.int .i64 n22)] H).bind fun r23 =>
   (lenP r23.vs 2).bind fun _ =>
   (nthP r23.vs 0).bind fun p24 =>
   p24.agg?.bind fun l25 =>
   cond (decide (l25.length = 5))
   ((intAt .i64 l25 0).bind fun n26 =>
    (intAt .i64 l25 1).bind fun n27 =>
    (intAt .i64 l25 2).bind fun n28 =>
    (slAt l25 3).bind fun s29 =>
    (slAt l25 4).bind fun s30 =>
    (nthP r23.vs 1).bind fun p31 =>
    p31.sc?.bind fun c32 =>
    (boolAt [c32] 0).bind fun b33 =>
    C (.loop F.isliceOf 0) [.sc (.sl x9), .sc (.sl x26), .sc (.int .i64 x27), .sc (.int .i64 (IntKind.wrap .i64 (x28 + 1))), .agg [.int .i64 n26, .int .i64 n27, .int .i64 n28, .sl s29, .sl s30]] r23.H)
   (none))
  (some ⟨2, [.agg [.int .i64 y10_0, .int .i64 y10_1, .int .i64 y10_2, .sl y10_3, .sl y10_4]], H⟩) := by kernel_rfl
theorem e_isliceOf (C : Oracle) (a0_0 a0_1 a0_2 : Int) (a0_3 a0_4 a1 : Sl) (a2 : Int) (H : AH) : (procM P T C (.fn F.isliceOf) [.agg [.int .i64 a0_0, .int .i64 a0_1, .int .i64 a0_2, .sl a0_3, .sl a0_4], .sc (.sl a1), .sc (.int .i64 a2)] H).run =
  (C (.fn F.idimsOf) [.sc (.sl a0_3)] H).bind fun r1 =>
  (lenP r1.vs 2).bind fun _ =>
  (nthP r1.vs 0).bind fun p2 =>
  p2.agg?.bind fun l3 =>
  cond (decide (l3.length = 100))
  ((nthP r1.vs 1).bind fun p4 =>
   p4.sc?.bind fun c5 =>
   (boolAt [c5] 0).bind fun b6 =>
   cond (Nat.beq l3.length 100)
   (cond (decide (0 + l3.length ≤ (zc P Y.t100_int).length))
    (cond (decide (100 ≤ (setAll (zc P Y.t100_int) 0 l3).length))
     ((C (.fn F.iaxesOf) [.agg (((setAll (zc P Y.t100_int) 0 l3).drop 0).take 100), .sc (.sl a1)] r1.H).bind fun r7 =>
      (oneP r7.vs).bind fun p8 =>
      p8.agg?.bind fun l9 =>
      cond (decide (l9.length = 3))
      ((slAt l9 0).bind fun s10 =>
       (slAt l9 1).bind fun s11 =>
       (slAt l9 2).bind fun s12 =>
       (C (.fn F.iindexIn) [.sc (.sl s11), .sc (.int .i64 a2)] r7.H).bind fun r13 =>
       (oneP r13.vs).bind fun p14 =>
       p14.sc?.bind fun c15 =>
       (slAt [c15] 0).bind fun s16 =>
       (C (.loop F.isliceOf 0) [.sc (.sl s16), .sc (.sl a1), .sc (.int .i64 (a1.n : Int)), .sc (.int .i64 0), .agg [.int .i64 a0_0, .int .i64 a0_1, .int .i64 a0_2, .sl a0_3, .sl a0_4]] r13.H).bind fun r34 =>
       cond (Nat.beq r34.e 2)
       (((nthP r34.vs 0).bind PV.agg?).bind fun l35 =>
        cond (decide (l35.length = 5))
        ((intAt .i64 l35 0).bind fun n36 =>
         (intAt .i64 l35 1).bind fun n37 =>
         (intAt .i64 l35 2).bind fun n38 =>
         (slAt l35 3).bind fun s39 =>
         (slAt l35 4).bind fun s40 =>
         some ⟨1, [.agg [.int .i64 n36, .int .i64 n37, .int .i64 n38, .sl s39, .sl s40]], r34.H⟩)
        (none))
       (none))
      (none))
     (none))
    (none))
   (none))
  (none) := by kernel_rfl
/- loop.example/g03211/impl.copySteps -/
theorem e_icopySteps (C : Oracle) (a0 : Sl) (H : AH) : (procM P T C (.fn F.icopySteps) [.sc (.sl a0)] H).run =
  (rng H a0.b a0.o (a0.n * 2)).bind fun l1 =>
  (appB H 2 16 ⟨0, 0, 0, 0, true⟩ l1 a0.n).bind fun m2 =>
  some ⟨1, [.sc (.sl m2.1)], m2.2⟩ := by kernel_rfl
/- loop.example/g03211/impl.copyInts -/
theorem e_icopyInts (C : Oracle) (a0 : Sl) (H : AH) : (procM P T C (.fn F.icopyInts) [.sc (.sl a0)] H).run =
  (rng H a0.b a0.o (a0.n * 1)).bind fun l1 =>
  (appB H 1 8 ⟨0, 0, 0, 0, true⟩ l1 a0.n).bind fun m2 =>
  some ⟨1, [.sc (.sl m2.1)], m2.2⟩ := by kernel_rfl
/- loop.example/g03211/impl.SlicedPeak -/
theorem e_iSlicedPeak (C : Oracle) (a0_0 a0_1 a0_2 : Int) (a0_3 a0_4 a1 a2 : Sl) (H : AH) : (procM P T C (.fn F.iSlicedPeak) [.agg [.int .i64 a0_0, .int .i64 a0_1, .int .i64 a0_2, .sl a0_3, .sl a0_4], .sc (.sl a1), .sc (.sl a2)] H).run =
  (C (.fn F.iOrderOk) [.agg [.int .i64 a0_0, .int .i64 a0_1, .int .i64 a0_2, .sl a0_3, .sl a0_4], .sc (.sl a1)] H).bind fun r1 =>
  (oneP r1.vs).bind fun p2 =>
  p2.sc?.bind fun c3 =>
  (boolAt [c3] 0).bind fun b4 =>
  cond (!b4)
  (some ⟨1, [.sc (.int .i64 (-1))], r1.H⟩)
  ((C (.fn F.iSliceCount) [.agg [.int .i64 a0_0, .int .i64 a0_1, .int .i64 a0_2, .sl a0_3, .sl a0_4], .sc (.sl a2)] r1.H).bind fun r5 =>
   (oneP r5.vs).bind fun p6 =>
   p6.sc?.bind fun c7 =>
   (intAt .i64 [c7] 0).bind fun n8 =>
   cond (n8 == (-1))
   (some ⟨1, [.sc (.int .i64 (-1))], r5.H⟩)
   ((C (.fn F.isliceOf) [.agg [.int .i64 a0_0, .int .i64 a0_1, .int .i64 a0_2, .sl a0_3, .sl a0_4], .sc (.sl a2), .sc (.int .i64 0)] r5.H).bind fun r9 =>
    (oneP r9.vs).bind fun p10 =>
    p10.agg?.bind fun l11 =>
    cond (decide (l11.length = 5))
    ((intAt .i64 l11 0).bind fun n12 =>
     (intAt .i64 l11 1).bind fun n13 =>
     (intAt .i64 l11 2).bind fun n14 =>
     (slAt l11 3).bind fun s15 =>
     (slAt l11 4).bind fun s16 =>
     (C (.fn F.iOrderPeak) [.agg [.int .i64 n12, .int .i64 n13, .int .i64 n14, .sl s15, .sl s16], .sc (.sl a1)] r9.H).bind fun r17 =>
     (oneP r17.vs).bind fun p18 =>
     p18.sc?.bind fun c19 =>
     (intAt .i64 [c19] 0).bind fun n20 =>
     some ⟨1, [.sc (.int .i64 n20)], r17.H⟩)
    (none))) := by kernel_rfl
/- loop.example/g03211/laws.eqStep -/
theorem e_weqStep (C : Oracle) (a0_0 a0_1 a1_0 a1_1 : Int) (H : AH) : (procM P T C (.fn F.weqStep) [.agg [.int .i64 a0_0, .int .i64 a0_1], .agg [.int .i64 a1_0, .int .i64 a1_1]] H).run =
  cond (a0_0 != a1_0)
  (some ⟨1, [.sc (.bool false)], H⟩)
  (cond (a0_1 != a1_1)
   (some ⟨1, [.sc (.bool false)], H⟩)
   (some ⟨1, [.sc (.bool true)], H⟩)) := by kernel_rfl
/- loop.example/g03211/laws.markTensorS -/
theorem e_wmarkTensorS_0 (C : Oracle) (x0 : Sl) (x1 x5 : Int) (H : AH) : (procM P T C (.loop F.wmarkTensorS 0) [.sc (.sl x0), .sc (.int .i64 x1), .sc (.int .i64 x5)] H).run =
  cond (decide (x5 < (x0.n : Int)))
  ((ixA x0 x5 3).bind fun o1 =>
   (rdB H x0.b).bind fun c2 =>
   (slAt c2 (o1 + 0)).bind fun s3 =>
   (C (.fn F.wmarkIntS) [.sc (.sl s3), .sc (.int .i64 x1)] H).bind fun r4 =>
   (oneP r4.vs).bind fun p5 =>
   p5.sc?.bind fun c6 =>
   (intAt .i64 [c6] 0).bind fun n7 =>
   (ixA x0 x5 3).bind fun o8 =>
   (rdB r4.H x0.b).bind fun c9 =>
   (slAt c9 (o8 + 1)).bind fun s10 =>
   (C (.fn F.wmarkIntS) [.sc (.sl s10), .sc (.int .i64 n7)] r4.H).bind fun r11 =>
   (oneP r11.vs).bind fun p12 =>
   p12.sc?.bind fun c13 =>
   (intAt .i64 [c13] 0).bind fun n14 =>
   (ixA x0 x5 3).bind fun o15 =>
   (rdB r11.H x0.b).bind fun c16 =>
   (slAt c16 (o15 + 2)).bind fun s17 =>
   (C (.fn F.wmarkIntS) [.sc (.sl s17), .sc (.int .i64 n14)] r11.H).bind fun r18 =>
   (oneP r18.vs).bind fun p19 =>
   p19.sc?.bind fun c20 =>
   (intAt .i64 [c20] 0).bind fun n21 =>
   C (.loop F.wmarkTensorS 0) [.sc (.sl x0), .sc (.int .i64 n21), .sc (.int .i64 (IntKind.wrap .i64 (x5 + 1)))] r18.H)
  (some ⟨2, [.sc (.int .i64 x1)], H⟩) := by kernel_rfl
theorem e_wmarkTensorS (C : Oracle) (a0 : Sl) (a1 : Int) (H : AH) : (procM P T C (.fn F.wmarkTensorS) [.sc (.sl a0), .sc (.int .i64 a1)] H).run =
  (C (.loop F.wmarkTensorS 0) [.sc (.sl a0), .sc (.int .i64 a1), .sc (.int .i64 0)] H).bind fun r22 =>
  cond (Nat.beq r22.e 2)
  ((nthP r22.vs 0).bind fun p23 =>
   p23.sc?.bind fun c24 =>
   (intAt .i64 [c24] 0).bind fun n25 =>
   some ⟨1, [.sc (.int .i64 n25)], r22.H⟩)
  (none) := by kernel_rfl
/- loop.example/g03211/laws.heldStepS -/
theorem e_wheldStepS_0 (C : Oracle) (x0 : Sl) (x1 x5 : Int) (H : AH) : (procM P T C (.loop F.wheldStepS 0) [.sc (.sl x0), .sc (.int .i64 x1), .sc (.int .i64 x5)] H).run =
  cond (decide (x5 < (x0.n : Int)))
  ((ixA x0 x5 2).bind fun o1 =>
   (rdB H x0.b).bind fun c2 =>
   (intAt .i64 c2 (o1 + 0)).bind fun n3 =>
   cond (n3 != x1)
   (some ⟨1, [.sc (.int .i64 (-1))], H⟩)
   ((ixA x0 x5 2).bind fun o4 =>
    (rdB H x0.b).bind fun c5 =>
    (intAt .i64 c5 (o4 + 1)).bind fun n6 =>
    cond (n6 != (IntKind.wrap .i64 (x1 + 1)))
    (some ⟨1, [.sc (.int .i64 (-1))], H⟩)
    (C (.loop F.wheldStepS 0) [.sc (.sl x0), .sc (.int .i64 (IntKind.wrap .i64 ((IntKind.wrap .i64 (x1 + 1)) + 1))), .sc (.int .i64 (IntKind.wrap .i64 (x5 + 1)))] H)))
  (some ⟨2, [.sc (.int .i64 x1)], H⟩) := by kernel_rfl
theorem e_wheldStepS (C : Oracle) (a0 : Sl) (a1 : Int) (H : AH) : (procM P T C (.fn F.wheldStepS) [.sc (.sl a0), .sc (.int .i64 a1)] H).run =
  (C (.loop F.wheldStepS 0) [.sc (.sl a0), .sc (.int .i64 a1), .sc (.int .i64 0)] H).bind fun r7 =>
  cond (Nat.beq r7.e 1)
  ((nthP r7.vs 0).bind fun p8 =>
   p8.sc?.bind fun c9 =>
   (intAt .i64 [c9] 0).bind fun n10 =>
   some ⟨1, [.sc (.int .i64 n10)], r7.H⟩)
  (cond (Nat.beq r7.e 2)
   ((nthP r7.vs 0).bind fun p11 =>
    p11.sc?.bind fun c12 =>
    (intAt .i64 [c12] 0).bind fun n13 =>
    some ⟨1, [.sc (.int .i64 n13)], r7.H⟩)
   (none)) := by kernel_rfl
/- loop.example/g03211/laws.heldIntS -/
theorem e_wheldIntS_0 (C : Oracle) (x0 : Sl) (x1 x5 : Int) (H : AH) : (procM P T C (.loop F.wheldIntS 0) [.sc (.sl x0), .sc (.int .i64 x1), .sc (.int .i64 x5)] H).run =
  cond (decide (x5 < (x0.n : Int)))
  ((ixA x0 x5 1).bind fun o1 =>
   (rdB H x0.b).bind fun c2 =>
   (intAt .i64 c2 o1).bind fun n3 =>
   cond (n3 != x1)
   (some ⟨1, [.sc (.int .i64 (-1))], H⟩)
   (C (.loop F.wheldIntS 0) [.sc (.sl x0), .sc (.int .i64 (IntKind.wrap .i64 (x1 + 1))), .sc (.int .i64 (IntKind.wrap .i64 (x5 + 1)))] H))
  (some ⟨2, [.sc (.int .i64 x1)], H⟩) := by kernel_rfl
theorem e_wheldIntS (C : Oracle) (a0 : Sl) (a1 : Int) (H : AH) : (procM P T C (.fn F.wheldIntS) [.sc (.sl a0), .sc (.int .i64 a1)] H).run =
  (C (.loop F.wheldIntS 0) [.sc (.sl a0), .sc (.int .i64 a1), .sc (.int .i64 0)] H).bind fun r4 =>
  cond (Nat.beq r4.e 1)
  ((nthP r4.vs 0).bind fun p5 =>
   p5.sc?.bind fun c6 =>
   (intAt .i64 [c6] 0).bind fun n7 =>
   some ⟨1, [.sc (.int .i64 n7)], r4.H⟩)
  (cond (Nat.beq r4.e 2)
   ((nthP r4.vs 0).bind fun p8 =>
    p8.sc?.bind fun c9 =>
    (intAt .i64 [c9] 0).bind fun n10 =>
    some ⟨1, [.sc (.int .i64 n10)], r4.H⟩)
   (none)) := by kernel_rfl
/- loop.example/g03211/spec.IsPrime -/
theorem e_sIsPrime_0 (C : Oracle) (x0 x3 : Int) (H : AH) : (procM P T C (.loop F.sIsPrime 0) [.sc (.int .i64 x0), .sc (.int .i64 x3)] H).run =
  cond (decide ((IntKind.wrap .i64 (x3 * x3)) ≤ x0))
  (cond (decide (x0 ≤ 1000003))
   (cond (x3 == 0)
    (none)
    (cond ((Int.tmod x0 x3) == 0)
     (some ⟨1, [.sc (.bool false)], H⟩)
     (C (.loop F.sIsPrime 0) [.sc (.int .i64 x0), .sc (.int .i64 (IntKind.wrap .i64 (x3 + 1)))] H)))
   (some ⟨2, [], H⟩))
  (some ⟨2, [], H⟩) := by kernel_rfl
theorem e_sIsPrime (C : Oracle) (a0 : Int) (H : AH) : (procM P T C (.fn F.sIsPrime) [.sc (.int .i64 a0)] H).run =
  (C (.loop F.sIsPrime 0) [.sc (.int .i64 a0), .sc (.int .i64 2)] H).bind fun r1 =>
  cond (Nat.beq r1.e 1)
  ((nthP r1.vs 0).bind fun p2 =>
   p2.sc?.bind fun c3 =>
   (boolAt [c3] 0).bind fun b4 =>
   some ⟨1, [.sc (.bool b4)], r1.H⟩)
  (cond (Nat.beq r1.e 2)
   ((C (.fn F.sl01In) [.sc (.int .i64 a0), .sc (.int .i64 2), .sc (.int .i64 1000003)] r1.H).bind fun r5 =>
    (oneP r5.vs).bind fun p6 =>
    p6.sc?.bind fun c7 =>
    (boolAt [c7] 0).bind fun b8 =>
    some ⟨1, [.sc (.bool b8)], r5.H⟩)
   (none)) := by kernel_rfl
/- loop.example/g03211/impl.IsPrime -/
theorem e_iIsPrime_0 (C : Oracle) (x0 x3 : Int) (H : AH) : (procM P T C (.loop F.iIsPrime 0) [.sc (.int .i64 x0), .sc (.int .i64 x3)] H).run =
  cond (decide ((IntKind.wrap .i64 (x3 * x3)) ≤ x0))
  (cond (x3 == 0)
   (none)
   (cond ((Int.tmod x0 x3) == 0)
    (some ⟨1, [.sc (.bool false)], H⟩)
    (C (.loop F.iIsPrime 0) [.sc (.int .i64 x0), .sc (.int .i64 (IntKind.wrap .i64 (x3 + 1)))] H)))
  (some ⟨2, [], H⟩) := by kernel_rfl
theorem e_iIsPrime (C : Oracle) (a0 : Int) (H : AH) : (procM P T C (.fn F.iIsPrime) [.sc (.int .i64 a0)] H).run =
  cond (decide (a0 < 2))
  (some ⟨1, [.sc (.bool false)], H⟩)
  (cond (decide (a0 > 1000003))
   (some ⟨1, [.sc (.bool false)], H⟩)
   ((C (.loop F.iIsPrime 0) [.sc (.int .i64 a0), .sc (.int .i64 2)] H).bind fun r1 =>
    cond (Nat.beq r1.e 1)
    ((nthP r1.vs 0).bind fun p2 =>
     p2.sc?.bind fun c3 =>
     (boolAt [c3] 0).bind fun b4 =>
     some ⟨1, [.sc (.bool b4)], r1.H⟩)
    (cond (Nat.beq r1.e 2)
     (some ⟨1, [.sc (.bool true)], r1.H⟩)
     (none)))) := by kernel_rfl
/- loop.example/g03211/laws.szTensor -/
theorem e_wszTensor (C : Oracle) (a0_0 a0_1 a0_2 : Sl) (a1 : Int) (H : AH) : (procM P T C (.fn F.wszTensor) [.agg [.sl a0_0, .sl a0_1, .sl a0_2], .sc (.int .i64 a1)] H).run =
  (C (.fn F.wszIntS) [.sc (.sl a0_0), .sc (.int .i64 a1)] H).bind fun r1 =>
  (oneP r1.vs).bind fun p2 =>
  p2.sc?.bind fun c3 =>
  (intAt .i64 [c3] 0).bind fun n4 =>
  cond (decide (n4 < 0))
  (some ⟨1, [.sc (.int .i64 (-1))], r1.H⟩)
  ((C (.fn F.wszIntS) [.sc (.sl a0_1), .sc (.int .i64 n4)] r1.H).bind fun r5 =>
   (oneP r5.vs).bind fun p6 =>
   p6.sc?.bind fun c7 =>
   (intAt .i64 [c7] 0).bind fun n8 =>
   cond (decide (n8 < 0))
   (some ⟨1, [.sc (.int .i64 (-1))], r5.H⟩)
   ((C (.fn F.wszIntS) [.sc (.sl a0_2), .sc (.int .i64 n8)] r5.H).bind fun r9 =>
    (oneP r9.vs).bind fun p10 =>
    p10.sc?.bind fun c11 =>
    (intAt .i64 [c11] 0).bind fun n12 =>
    cond (decide (n12 < 0))
    (some ⟨1, [.sc (.int .i64 (-1))], r9.H⟩)
    (some ⟨1, [.sc (.int .i64 n12)], r9.H⟩))) := by kernel_rfl
/- loop.example/g03211/laws.toTensor -/
theorem e_wtoTensor (C : Oracle) (a0_0 a0_1 a0_2 : Sl) (H : AH) : (procM P T C (.fn F.wtoTensor) [.agg [.sl a0_0, .sl a0_1, .sl a0_2]] H).run =
  (C (.fn F.wtoIntS) [.sc (.sl a0_0)] H).bind fun r1 =>
  (oneP r1.vs).bind fun p2 =>
  p2.sc?.bind fun c3 =>
  (slAt [c3] 0).bind fun s4 =>
  (C (.fn F.wtoIntS) [.sc (.sl a0_1)] r1.H).bind fun r5 =>
  (oneP r5.vs).bind fun p6 =>
  p6.sc?.bind fun c7 =>
  (slAt [c7] 0).bind fun s8 =>
  (C (.fn F.wtoIntS) [.sc (.sl a0_2)] r5.H).bind fun r9 =>
  (oneP r9.vs).bind fun p10 =>
  p10.sc?.bind fun c11 =>
  (slAt [c11] 0).bind fun s12 =>
  some ⟨1, [.agg [.sl s4, .sl s8, .sl s12]], r9.H⟩ := by kernel_rfl
/- loop.example/g03211/laws.eqTensor -/
theorem e_weqTensor (C : Oracle) (a0_0 a0_1 a0_2 a1_0 a1_1 a1_2 : Sl) (H : AH) : (procM P T C (.fn F.weqTensor) [.agg [.sl a0_0, .sl a0_1, .sl a0_2], .agg [.sl a1_0, .sl a1_1, .sl a1_2]] H).run =
  (C (.fn F.weqIntS) [.sc (.sl a0_0), .sc (.sl a1_0)] H).bind fun r1 =>
  (oneP r1.vs).bind fun p2 =>
  p2.sc?.bind fun c3 =>
  (boolAt [c3] 0).bind fun b4 =>
  cond (!b4)
  (some ⟨1, [.sc (.bool false)], r1.H⟩)
  ((C (.fn F.weqIntS) [.sc (.sl a0_1), .sc (.sl a1_1)] r1.H).bind fun r5 =>
   (oneP r5.vs).bind fun p6 =>
   p6.sc?.bind fun c7 =>
   (boolAt [c7] 0).bind fun b8 =>
   cond (!b8)
   (some ⟨1, [.sc (.bool false)], r5.H⟩)
   ((C (.fn F.weqIntS) [.sc (.sl a0_2), .sc (.sl a1_2)] r5.H).bind fun r9 =>
    (oneP r9.vs).bind fun p10 =>
    p10.sc?.bind fun c11 =>
    (boolAt [c11] 0).bind fun b12 =>
    cond (!b12)
    (some ⟨1, [.sc (.bool false)], r9.H⟩)
    (some ⟨1, [.sc (.bool true)], r9.H⟩))) := by kernel_rfl
/- loop.example/g03211/spec.l17Run -/
theorem e_sl17Run_0 (C : Oracle) (x6b x6o : Nat) (x7 x13 : Sl) (x14 x15 y2_0 y2_1 y2_2 : Int) (y2_3 y2_4 : Sl) (H : AH) : (procM P T C (.loop F.sl17Run 0) [.sc (.hp x6b x6o), .sc (.sl x7), .sc (.sl x13), .sc (.int .i64 x14), .sc (.int .i64 x15), .agg [.int .i64 y2_0, .int .i64 y2_1, .int .i64 y2_2, .sl y2_3, .sl y2_4]] H).run =
  cond (decide (x15 < x14))
  ((ixA x13 x15 2).bind fun o6 =>
   (rdB H x13.b).bind fun c7 =>
   (intAt .i64 c7 o6).bind fun n8 =>
   (intAt .i64 c7 (o6 + 1)).bind fun n9 =>
   (C (.fn F.sl17Step) [.sc (.hp x6b x6o), .sc (.sl y2_4), .agg [.int .i64 n8, .int .i64 n9]] H).bind fun r10 =>
   (oneP r10.vs).bind fun p11 =>
   p11.sc?.bind fun c12 =>
   (intAt .i64 [c12] 0).bind fun n13 =>
   (newB r10.H 1 [.int .i64 n13]).bind fun h14 =>
   (rng h14.2 h14.1 0 (1 * 1)).bind fun l15 =>
   (appB h14.2 1 8 x7 l15 1).bind fun m16 =>
   C (.loop F.sl17Run 0) [.sc (.hp x6b x6o), .sc (.sl m16.1), .sc (.sl x13), .sc (.int .i64 x14), .sc (.int .i64 (IntKind.wrap .i64 (x15 + 1))), .agg [.int .i64 y2_0, .int .i64 y2_1, .int .i64 y2_2, .sl y2_3, .sl y2_4]] m16.2)
  (some ⟨2, [.sc (.sl x7)], H⟩) := by kernel_rfl
theorem e_sl17Run (C : Oracle) (a0_0 a0_1 a0_2 : Int) (a0_3 a0_4 a1 : Sl) (H : AH) : (procM P T C (.fn F.sl17Run) [.agg [.int .i64 a0_0, .int .i64 a0_1, .int .i64 a0_2, .sl a0_3, .sl a0_4], .sc (.sl a1)] H).run =
  (C (.fn F.sl17New) [.agg [.int .i64 a0_0, .int .i64 a0_1, .int .i64 a0_2, .sl a0_3, .sl a0_4]] H).bind fun r1 =>
  (oneP r1.vs).bind fun p2 =>
  p2.sc?.bind fun c3 =>
  (ptrAt [c3] 0).bind fun p4 =>
  (newB r1.H 1 []).bind fun h5 =>
  (C (.loop F.sl17Run 0) [.sc (.hp p4.1 p4.2), .sc (.sl ⟨h5.1, 0, 0, 0, true⟩), .sc (.sl a1), .sc (.int .i64 (a1.n : Int)), .sc (.int .i64 0), .agg [.int .i64 a0_0, .int .i64 a0_1, .int .i64 a0_2, .sl a0_3, .sl a0_4]] h5.2).bind fun r17 =>
  cond (Nat.beq r17.e 2)
  ((nthP r17.vs 0).bind fun p18 =>
   p18.sc?.bind fun c19 =>
   (slAt [c19] 0).bind fun s20 =>
   some ⟨1, [.sc (.hp p4.1 p4.2), .sc (.sl s20)], r17.H⟩)
  (none) := by kernel_rfl
/- loop.example/g03211/spec.l05Product -/
theorem e_sl05Product_0 (C : Oracle) (x1 x5 : Int) (x8 : Sl) (x9 x10 : Int) (H : AH) : (procM P T C (.loop F.sl05Product 0) [.sc (.int .i64 x1), .sc (.int .i64 x5), .sc (.sl x8), .sc (.int .i64 x9), .sc (.int .i64 x10)] H).run =
  cond (decide (x10 < x9))
  ((ixA x8 x10 1).bind fun o1 =>
   (rdB H x8.b).bind fun c2 =>
   (intAt .i64 c2 o1).bind fun n3 =>
   C (.loop F.sl05Product 0) [.sc (.int .i64 x1), .sc (.int .i64 (if IntKind.wrap .i64 (x1 + 1) < IntKind.wrap .i64 (x5 * n3) then IntKind.wrap .i64 (x1 + 1) else IntKind.wrap .i64 (x5 * n3))), .sc (.sl x8), .sc (.int .i64 x9), .sc (.int .i64 (IntKind.wrap .i64 (x10 + 1)))] H)
  (some ⟨2, [.sc (.int .i64 x5)], H⟩) := by kernel_rfl
theorem e_sl05Product (C : Oracle) (a0 : Sl) (a1 : Int) (H : AH) : (procM P T C (.fn F.sl05Product) [.sc (.sl a0), .sc (.int .i64 a1)] H).run =
  (C (.loop F.sl05Product 0) [.sc (.int .i64 a1), .sc (.int .i64 1), .sc (.sl a0), .sc (.int .i64 (a0.n : Int)), .sc (.int .i64 0)] H).bind fun r4 =>
  cond (Nat.beq r4.e 2)
  ((nthP r4.vs 0).bind fun p5 =>
   p5.sc?.bind fun c6 =>
   (intAt .i64 [c6] 0).bind fun n7 =>
   some ⟨1, [.sc (.int .i64 n7)], r4.H⟩)
  (none) := by kernel_rfl
/- loop.example/g03211/impl.startState -/
theorem e_istartState_0 (C : Oracle) (x5b x5o : Nat) (x23 : Sl) (x24 x25 : Int) (H : AH) : (procM P T C (.loop F.istartState 0) [.sc (.hp x5b x5o), .sc (.sl x23), .sc (.int .i64 x24), .sc (.int .i64 x25)] H).run =
  cond (decide (x25 < x24))
  ((ixA x23 x25 3).bind fun o9 =>
   (rdB H x23.b).bind fun c10 =>
   (slAt c10 o9).bind fun s11 =>
   (slAt c10 (o9 + 1)).bind fun s12 =>
   (slAt c10 (o9 + 1 + 1)).bind fun s13 =>
   cond (decide (x5b < H.length))
   ((rdB ((reserve H 1).set (H.length + 0) deadB) x5b).bind fun c14 =>
    (slAt c14 (x5o + 101)).bind fun s15 =>
    (C (.fn F.icopyInts) [.sc (.sl s11)] (reserve H 1)).bind fun r16 =>
    (oneP r16.vs).bind fun p17 =>
    p17.sc?.bind fun c18 =>
    (slAt [c18] 0).bind fun s19 =>
    cond (decide (r16.H.take (H.length) = (reserve H 1).take (H.length)))
    ((newAt r16.H (H.length + 0) 2 [.int .i64 x25, .sl s19]).bind fun h20 =>
     (rng h20.2 h20.1 0 (1 * 2)).bind fun l21 =>
     (appB h20.2 2 32 s15 l21 1).bind fun m22 =>
     (putR m22.2 x5b (x5o + 101) [.sl m22.1]).bind fun H23 =>
     C (.loop F.istartState 0) [.sc (.hp x5b x5o), .sc (.sl x23), .sc (.int .i64 x24), .sc (.int .i64 (IntKind.wrap .i64 (x25 + 1)))] H23)
    (none))
   (none))
  (some ⟨2, [], H⟩) := by kernel_rfl
theorem e_istartState (C : Oracle) (a0_0 a0_1 a0_2 : Int) (a0_3 a0_4 : Sl) (H : AH) : (procM P T C (.fn F.istartState) [.agg [.int .i64 a0_0, .int .i64 a0_1, .int .i64 a0_2, .sl a0_3, .sl a0_4]] H).run =
  (C (.fn F.idimsOf) [.sc (.sl a0_3)] H).bind fun r1 =>
  (lenP r1.vs 2).bind fun _ =>
  (nthP r1.vs 0).bind fun p2 =>
  p2.agg?.bind fun l3 =>
  cond (decide (l3.length = 100))
  ((nthP r1.vs 1).bind fun p4 =>
   p4.sc?.bind fun c5 =>
   (boolAt [c5] 0).bind fun b6 =>
   cond (Nat.beq l3.length 100)
   (cond (decide (0 + l3.length ≤ (zc P Y.t100_int).length))
    (cond (decide (100 ≤ (setAll (zc P Y.t100_int) 0 l3).length))
     ((fillB [(0, 100), (100, 1), (101, 1), (102, 1)] (zc P Y.timpl_orderState) [(0, .agg (((setAll (zc P Y.t100_int) 0 l3).drop 0).take 100)), (1, .sc (.sl a0_4)), (3, .sc (.int .i64 (a0_3.n : Int)))]).bind fun l7 =>
      (newB r1.H 103 l7).bind fun h8 =>
      (C (.loop F.istartState 0) [.sc (.hp h8.1 0), .sc (.sl a0_3), .sc (.int .i64 (a0_3.n : Int)), .sc (.int .i64 0)] h8.2).bind fun r24 =>
      cond (Nat.beq r24.e 2)
      (some ⟨1, [.sc (.hp h8.1 0)], r24.H⟩)
      (none))
     (none))
    (none))
   (none))
  (none) := by kernel_rfl
/- (*loop.example/g03211/impl.orderState).size -/
theorem e_x__impl_orderState__size (C : Oracle) (a0b a0o : Nat) (a1 : Sl) (H : AH) : (procM P T C (.fn F.x__impl_orderState__size) [.sc (.hp a0b a0o), .sc (.sl a1)] H).run =
  (rdB H a0b).bind fun c1 =>
  cond (decide (a0o + 0 + 100 ≤ c1.length))
  ((C (.fn F.iaxesOf) [.agg ((c1.drop (a0o + 0)).take 100), .sc (.sl a1)] H).bind fun r2 =>
   (oneP r2.vs).bind fun p3 =>
   p3.agg?.bind fun l4 =>
   cond (decide (l4.length = 3))
   ((slAt l4 0).bind fun s5 =>
    (slAt l4 1).bind fun s6 =>
    (slAt l4 2).bind fun s7 =>
    (C (.fn F.icappedProduct) [.sc (.sl s6), .sc (.int .i64 1000000000)] r2.H).bind fun r8 =>
    (oneP r8.vs).bind fun p9 =>
    p9.sc?.bind fun c10 =>
    (intAt .i64 [c10] 0).bind fun n11 =>
    some ⟨1, [.sc (.int .i64 n11)], r8.H⟩)
   (none))
  (none) := by kernel_rfl
/- (*loop.example/g03211/impl.orderState).follow -/
theorem e_x__impl_orderState__follow (C : Oracle) (a0b a0o : Nat) (a1_0 a1_1 : Int) (H : AH) : (procM P T C (.fn F.x__impl_orderState__follow) [.sc (.hp a0b a0o), .agg [.int .i64 a1_0, .int .i64 a1_1]] H).run =
  (C (.fn F.x__impl_orderState__place) [.sc (.hp a0b a0o), .sc (.int .i64 a1_0)] H).bind fun r1 =>
  (oneP r1.vs).bind fun p2 =>
  p2.sc?.bind fun c3 =>
  (intAt .i64 [c3] 0).bind fun n4 =>
  (C (.fn F.x__impl_orderState__place) [.sc (.hp a0b a0o), .sc (.int .i64 a1_1)] r1.H).bind fun r5 =>
  (oneP r5.vs).bind fun p6 =>
  p6.sc?.bind fun c7 =>
  (intAt .i64 [c7] 0).bind fun n8 =>
  cond (decide (n4 < 0))
  (some ⟨1, [.sc (.bool false)], r5.H⟩)
  (cond (decide (n8 < 0))
   (some ⟨1, [.sc (.bool false)], r5.H⟩)
   (cond (decide (a1_0 ≥ a1_1))
    (some ⟨1, [.sc (.bool false)], r5.H⟩)
    ((C (.fn F.x__impl_orderState__contract) [.sc (.hp a0b a0o), .sc (.int .i64 n4), .sc (.int .i64 n8)] r5.H).bind fun r9 =>
     (oneP r9.vs).bind fun p10 =>
     p10.agg?.bind fun l11 =>
     cond (decide (l11.length = 2))
     ((intAt .i64 l11 0).bind fun n12 =>
      (intAt .i64 l11 1).bind fun n13 =>
      some ⟨1, [.sc (.bool true)], r9.H⟩)
     (none)))) := by kernel_rfl
/- loop.example/g03211/spec.NetworkOk -/
theorem e_sNetworkOk_0 (C : Oracle) (x19 : Sl) (x20 x21 y1_0 y1_1 y1_2 : Int) (y1_3 y1_4 : Sl) (H : AH) : (procM P T C (.loop F.sNetworkOk 0) [.sc (.sl x19), .sc (.int .i64 x20), .sc (.int .i64 x21), .agg [.int .i64 y1_0, .int .i64 y1_1, .int .i64 y1_2, .sl y1_3, .sl y1_4]] H).run =
  cond (decide (x21 < x20))
  ((ixA x19 x21 3).bind fun o5 =>
   (rdB H x19.b).bind fun c6 =>
   (slAt c6 o5).bind fun s7 =>
   (slAt c6 (o5 + 1)).bind fun s8 =>
   (slAt c6 (o5 + 1 + 1)).bind fun s9 =>
   (C (.fn F.sTensorOk) [.agg [.int .i64 y1_0, .int .i64 y1_1, .int .i64 y1_2], .agg [.sl s7, .sl s8, .sl s9]] H).bind fun r10 =>
   (oneP r10.vs).bind fun p11 =>
   p11.sc?.bind fun c12 =>
   (boolAt [c12] 0).bind fun b13 =>
   cond (!b13)
   (some ⟨1, [.sc (.bool false)], r10.H⟩)
   ((C (.loop F.sNetworkOk 1) [.sc (.int .i64 x21), .sc (.sl s7), .sc (.int .i64 (s7.n : Int)), .sc (.int .i64 0), .agg [.int .i64 y1_0, .int .i64 y1_1, .int .i64 y1_2, .sl y1_3, .sl y1_4], .agg [.sl s7, .sl s8, .sl s9]] r10.H).bind fun r25 =>
    cond (Nat.beq r25.e 1)
    ((nthP r25.vs 0).bind fun p26 =>
     p26.sc?.bind fun c27 =>
     (boolAt [c27] 0).bind fun b28 =>
     some ⟨1, [.sc (.bool b28)], r25.H⟩)
    (cond (Nat.beq r25.e 4)
     (C (.loop F.sNetworkOk 0) [.sc (.sl x19), .sc (.int .i64 x20), .sc (.int .i64 (IntKind.wrap .i64 (x21 + 1))), .agg [.int .i64 y1_0, .int .i64 y1_1, .int .i64 y1_2, .sl y1_3, .sl y1_4]] r25.H)
     (none))))
  (some ⟨2, [], H⟩) := by kernel_rfl
theorem e_sNetworkOk_1 (C : Oracle) (x3 : Int) (x32 : Sl) (x33 x34 y1_0 y1_1 y1_2 : Int) (y1_3 y1_4 y4_0 y4_1 y4_2 : Sl) (H : AH) : (procM P T C (.loop F.sNetworkOk 1) [.sc (.int .i64 x3), .sc (.sl x32), .sc (.int .i64 x33), .sc (.int .i64 x34), .agg [.int .i64 y1_0, .int .i64 y1_1, .int .i64 y1_2, .sl y1_3, .sl y1_4], .agg [.sl y4_0, .sl y4_1, .sl y4_2]] H).run =
  cond (decide (x34 < x33))
  ((ixA x32 x34 1).bind fun o14 =>
   (rdB H x32.b).bind fun c15 =>
   (intAt .i64 c15 o14).bind fun n16 =>
   (slB y1_3 none (some x3) none 3).bind fun s17 =>
   (C (.fn F.sl12Dim) [.sc (.sl s17), .sc (.int .i64 n16)] H).bind fun r18 =>
   (oneP r18.vs).bind fun p19 =>
   p19.sc?.bind fun c20 =>
   (intAt .i64 [c20] 0).bind fun n21 =>
   cond (decide (n21 > 0))
   ((ixA y4_1 x34 1).bind fun o22 =>
    (rdB r18.H y4_1.b).bind fun c23 =>
    (intAt .i64 c23 o22).bind fun n24 =>
    cond (n21 != n24)
    (some ⟨1, [.sc (.bool false)], r18.H⟩)
    (C (.loop F.sNetworkOk 1) [.sc (.int .i64 x3), .sc (.sl x32), .sc (.int .i64 x33), .sc (.int .i64 (IntKind.wrap .i64 (x34 + 1))), .agg [.int .i64 y1_0, .int .i64 y1_1, .int .i64 y1_2, .sl y1_3, .sl y1_4], .agg [.sl y4_0, .sl y4_1, .sl y4_2]] r18.H))
   (C (.loop F.sNetworkOk 1) [.sc (.int .i64 x3), .sc (.sl x32), .sc (.int .i64 x33), .sc (.int .i64 (IntKind.wrap .i64 (x34 + 1))), .agg [.int .i64 y1_0, .int .i64 y1_1, .int .i64 y1_2, .sl y1_3, .sl y1_4], .agg [.sl y4_0, .sl y4_1, .sl y4_2]] r18.H))
  (some ⟨4, [], H⟩) := by kernel_rfl
theorem e_sNetworkOk (C : Oracle) (a0_0 a0_1 a0_2 : Int) (a0_3 a0_4 : Sl) (H : AH) : (procM P T C (.fn F.sNetworkOk) [.agg [.int .i64 a0_0, .int .i64 a0_1, .int .i64 a0_2, .sl a0_3, .sl a0_4]] H).run =
  (C (.fn F.sRingOk) [.agg [.int .i64 a0_0, .int .i64 a0_1, .int .i64 a0_2]] H).bind fun r1 =>
  (oneP r1.vs).bind fun p2 =>
  p2.sc?.bind fun c3 =>
  (boolAt [c3] 0).bind fun b4 =>
  cond (!b4)
  (some ⟨1, [.sc (.bool false)], r1.H⟩)
  (cond (decide ((a0_3.n : Int) > 12))
   (some ⟨1, [.sc (.bool false)], r1.H⟩)
   ((C (.loop F.sNetworkOk 0) [.sc (.sl a0_3), .sc (.int .i64 (a0_3.n : Int)), .sc (.int .i64 0), .agg [.int .i64 a0_0, .int .i64 a0_1, .int .i64 a0_2, .sl a0_3, .sl a0_4]] r1.H).bind fun r29 =>
    cond (Nat.beq r29.e 1)
    ((nthP r29.vs 0).bind fun p30 =>
     p30.sc?.bind fun c31 =>
     (boolAt [c31] 0).bind fun b32 =>
     some ⟨1, [.sc (.bool b32)], r29.H⟩)
    (cond (Nat.beq r29.e 2)
     ((C (.fn F.sl12Dims) [.sc (.sl a0_3), .sc (.sl a0_4)] r29.H).bind fun r33 =>
      (oneP r33.vs).bind fun p34 =>
      p34.sc?.bind fun c35 =>
      (slAt [c35] 0).bind fun s36 =>
      (C (.fn F.sTensorSize) [.agg [.sl a0_4, .sl s36, .sl ⟨0, 0, 0, 0, true⟩]] r33.H).bind fun r37 =>
      (oneP r37.vs).bind fun p38 =>
      p38.sc?.bind fun c39 =>
      (intAt .i64 [c39] 0).bind fun n40 =>
      some ⟨1, [.sc (.bool (decide (n40 ≥ 0)))], r37.H⟩)
     (none)))) := by kernel_rfl
/- loop.example/g03211/spec.l21Closed -/
theorem e_sl21Closed_0 (C : Oracle) (x3 x9 : Sl) (x10 x11 y1_0 y1_1 y1_2 : Int) (y1_3 y1_4 : Sl) (H : AH) : (procM P T C (.loop F.sl21Closed 0) [.sc (.sl x3), .sc (.sl x9), .sc (.int .i64 x10), .sc (.int .i64 x11), .agg [.int .i64 y1_0, .int .i64 y1_1, .int .i64 y1_2, .sl y1_3, .sl y1_4]] H).run =
  cond (decide (x11 < x10))
  ((ixA x9 x11 1).bind fun o6 =>
   (rdB H x9.b).bind fun c7 =>
   (intAt .i64 c7 o6).bind fun n8 =>
   (C (.fn F.sl05Find) [.sc (.sl y1_4), .sc (.int .i64 n8)] H).bind fun r9 =>
   (oneP r9.vs).bind fun p10 =>
   p10.sc?.bind fun c11 =>
   (intAt .i64 [c11] 0).bind fun n12 =>
   cond (decide (n12 < 0))
   ((newB r9.H 1 [.int .i64 n8]).bind fun h13 =>
    (rng h13.2 h13.1 0 (1 * 1)).bind fun l14 =>
    (appB h13.2 1 8 x3 l14 1).bind fun m15 =>
    C (.loop F.sl21Closed 0) [.sc (.sl m15.1), .sc (.sl x9), .sc (.int .i64 x10), .sc (.int .i64 (IntKind.wrap .i64 (x11 + 1))), .agg [.int .i64 y1_0, .int .i64 y1_1, .int .i64 y1_2, .sl y1_3, .sl y1_4]] m15.2)
   (C (.loop F.sl21Closed 0) [.sc (.sl x3), .sc (.sl x9), .sc (.int .i64 x10), .sc (.int .i64 (IntKind.wrap .i64 (x11 + 1))), .agg [.int .i64 y1_0, .int .i64 y1_1, .int .i64 y1_2, .sl y1_3, .sl y1_4]] r9.H))
  (some ⟨2, [.sc (.sl x3)], H⟩) := by kernel_rfl
theorem e_sl21Closed (C : Oracle) (a0_0 a0_1 a0_2 : Int) (a0_3 a0_4 : Sl) (H : AH) : (procM P T C (.fn F.sl21Closed) [.agg [.int .i64 a0_0, .int .i64 a0_1, .int .i64 a0_2, .sl a0_3, .sl a0_4]] H).run =
  (newB H 1 []).bind fun h1 =>
  (C (.fn F.sl12Labels) [.sc (.sl a0_3)] h1.2).bind fun r2 =>
  (oneP r2.vs).bind fun p3 =>
  p3.sc?.bind fun c4 =>
  (slAt [c4] 0).bind fun s5 =>
  (C (.loop F.sl21Closed 0) [.sc (.sl ⟨h1.1, 0, 0, 0, true⟩), .sc (.sl s5), .sc (.int .i64 (s5.n : Int)), .sc (.int .i64 0), .agg [.int .i64 a0_0, .int .i64 a0_1, .int .i64 a0_2, .sl a0_3, .sl a0_4]] r2.H).bind fun r16 =>
  cond (Nat.beq r16.e 2)
  ((nthP r16.vs 0).bind fun p17 =>
   p17.sc?.bind fun c18 =>
   (slAt [c18] 0).bind fun s19 =>
   some ⟨1, [.sc (.sl s19)], r16.H⟩)
  (none) := by kernel_rfl
/- loop.example/g03211/spec.l05Find -/
theorem e_sl05Find_0 (C : Oracle) (x1 : Int) (x7 : Sl) (x8 x9 : Int) (H : AH) : (procM P T C (.loop F.sl05Find 0) [.sc (.int .i64 x1), .sc (.sl x7), .sc (.int .i64 x8), .sc (.int .i64 x9)] H).run =
  cond (decide (x9 < x8))
  ((ixA x7 x9 1).bind fun o1 =>
   (rdB H x7.b).bind fun c2 =>
   (intAt .i64 c2 o1).bind fun n3 =>
   cond (n3 == x1)
   (some ⟨1, [.sc (.int .i64 x9)], H⟩)
   (C (.loop F.sl05Find 0) [.sc (.int .i64 x1), .sc (.sl x7), .sc (.int .i64 x8), .sc (.int .i64 (IntKind.wrap .i64 (x9 + 1)))] H))
  (some ⟨2, [], H⟩) := by kernel_rfl
theorem e_sl05Find (C : Oracle) (a0 : Sl) (a1 : Int) (H : AH) : (procM P T C (.fn F.sl05Find) [.sc (.sl a0), .sc (.int .i64 a1)] H).run =
  (C (.loop F.sl05Find 0) [.sc (.int .i64 a1), .sc (.sl a0), .sc (.int .i64 (a0.n : Int)), .sc (.int .i64 0)] H).bind fun r4 =>
  cond (Nat.beq r4.e 1)
  ((nthP r4.vs 0).bind fun p5 =>
   p5.sc?.bind fun c6 =>
   (intAt .i64 [c6] 0).bind fun n7 =>
   some ⟨1, [.sc (.int .i64 n7)], r4.H⟩)
  (cond (Nat.beq r4.e 2)
   (some ⟨1, [.sc (.int .i64 (-1))], r4.H⟩)
   (none)) := by kernel_rfl
/- loop.example/g03211/spec.l12Dims -/
theorem e_sl12Dims_0 (C : Oracle) (x0 x5 x9 : Sl) (x10 x11 : Int) (H : AH) : (procM P T C (.loop F.sl12Dims 0) [.sc (.sl x0), .sc (.sl x5), .sc (.sl x9), .sc (.int .i64 x10), .sc (.int .i64 x11)] H).run =
  cond (decide (x11 < x10))
  ((ixA x9 x11 1).bind fun o2 =>
   (rdB H x9.b).bind fun c3 =>
   (intAt .i64 c3 o2).bind fun n4 =>
   (C (.fn F.sl12Dim) [.sc (.sl x0), .sc (.int .i64 n4)] H).bind fun r5 =>
   (oneP r5.vs).bind fun p6 =>
   p6.sc?.bind fun c7 =>
   (intAt .i64 [c7] 0).bind fun n8 =>
   (newB r5.H 1 [.int .i64 n8]).bind fun h9 =>
   (rng h9.2 h9.1 0 (1 * 1)).bind fun l10 =>
   (appB h9.2 1 8 x5 l10 1).bind fun m11 =>
   C (.loop F.sl12Dims 0) [.sc (.sl x0), .sc (.sl m11.1), .sc (.sl x9), .sc (.int .i64 x10), .sc (.int .i64 (IntKind.wrap .i64 (x11 + 1)))] m11.2)
  (some ⟨2, [.sc (.sl x5)], H⟩) := by kernel_rfl
theorem e_sl12Dims (C : Oracle) (a0 a1 : Sl) (H : AH) : (procM P T C (.fn F.sl12Dims) [.sc (.sl a0), .sc (.sl a1)] H).run =
  (newB H 1 []).bind fun h1 =>
  (C (.loop F.sl12Dims 0) [.sc (.sl a0), .sc (.sl ⟨h1.1, 0, 0, 0, true⟩), .sc (.sl a1), .sc (.int .i64 (a1.n : Int)), .sc (.int .i64 0)] h1.2).bind fun r12 =>
  cond (Nat.beq r12.e 2)
  ((nthP r12.vs 0).bind fun p13 =>
   p13.sc?.bind fun c14 =>
   (slAt [c14] 0).bind fun s15 =>
   some ⟨1, [.sc (.sl s15)], r12.H⟩)
  (none) := by kernel_rfl
/- loop.example/g03211/spec.l09Fix -/
theorem e_sl09Fix_0 (C : Oracle) (x3 x14 : Sl) (x15 x16 y4_0 y4_1 y4_2 : Int) (y9_0 y9_1 y9_2 : Sl) (H : AH) : (procM P T C (.loop F.sl09Fix 0) [.sc (.sl x3), .sc (.sl x14), .sc (.int .i64 x15), .sc (.int .i64 x16), .agg [.int .i64 y4_0, .int .i64 y4_1, .int .i64 y4_2], .agg [.sl y9_0, .sl y9_1, .sl y9_2]] H).run =
  cond (decide (x16 < x15))
  ((ixA x14 x16 1).bind fun o7 =>
   (rdB H x14.b).bind fun c8 =>
   (intAt .i64 c8 o7).bind fun n9 =>
   (C (.fn F.sl05Find) [.sc (.sl y9_0), .sc (.int .i64 n9)] H).bind fun r10 =>
   (oneP r10.vs).bind fun p11 =>
   p11.sc?.bind fun c12 =>
   (intAt .i64 [c12] 0).bind fun n13 =>
   cond (decide (n13 ≥ 0))
   ((ixA x3 x16 1).bind fun o14 =>
    (rdB r10.H x3.b).bind fun c15 =>
    (intAt .i64 c15 o14).bind fun n16 =>
    (C (.fn F.sl09Slice) [.agg [.int .i64 y4_0, .int .i64 y4_1, .int .i64 y4_2], .agg [.sl y9_0, .sl y9_1, .sl y9_2], .sc (.int .i64 n9), .sc (.int .i64 n16)] r10.H).bind fun r17 =>
    (oneP r17.vs).bind fun p18 =>
    p18.agg?.bind fun l19 =>
    cond (decide (l19.length = 3))
    ((slAt l19 0).bind fun s20 =>
     (slAt l19 1).bind fun s21 =>
     (slAt l19 2).bind fun s22 =>
     C (.loop F.sl09Fix 0) [.sc (.sl x3), .sc (.sl x14), .sc (.int .i64 x15), .sc (.int .i64 (IntKind.wrap .i64 (x16 + 1))), .agg [.int .i64 y4_0, .int .i64 y4_1, .int .i64 y4_2], .agg [.sl s20, .sl s21, .sl s22]] r17.H)
    (none))
   (C (.loop F.sl09Fix 0) [.sc (.sl x3), .sc (.sl x14), .sc (.int .i64 x15), .sc (.int .i64 (IntKind.wrap .i64 (x16 + 1))), .agg [.int .i64 y4_0, .int .i64 y4_1, .int .i64 y4_2], .agg [.sl y9_0, .sl y9_1, .sl y9_2]] r10.H))
  (some ⟨2, [.agg [.sl y9_0, .sl y9_1, .sl y9_2]], H⟩) := by kernel_rfl
theorem e_sl09Fix (C : Oracle) (a0_0 a0_1 a0_2 : Int) (a1_0 a1_1 a1_2 a2 a3 : Sl) (H : AH) : (procM P T C (.fn F.sl09Fix) [.agg [.int .i64 a0_0, .int .i64 a0_1, .int .i64 a0_2], .agg [.sl a1_0, .sl a1_1, .sl a1_2], .sc (.sl a2), .sc (.sl a3)] H).run =
  (C (.fn F.sl05Copy) [.agg [.sl a1_0, .sl a1_1, .sl a1_2]] H).bind fun r1 =>
  (oneP r1.vs).bind fun p2 =>
  p2.agg?.bind fun l3 =>
  cond (decide (l3.length = 3))
  ((slAt l3 0).bind fun s4 =>
   (slAt l3 1).bind fun s5 =>
   (slAt l3 2).bind fun s6 =>
   (C (.loop F.sl09Fix 0) [.sc (.sl a3), .sc (.sl a2), .sc (.int .i64 (a2.n : Int)), .sc (.int .i64 0), .agg [.int .i64 a0_0, .int .i64 a0_1, .int .i64 a0_2], .agg [.sl s4, .sl s5, .sl s6]] r1.H).bind fun r23 =>
   cond (Nat.beq r23.e 2)
   (((nthP r23.vs 0).bind PV.agg?).bind fun l24 =>
    cond (decide (l24.length = 3))
    ((slAt l24 0).bind fun s25 =>
     (slAt l24 1).bind fun s26 =>
     (slAt l24 2).bind fun s27 =>
     some ⟨1, [.agg [.sl s25, .sl s26, .sl s27]], r23.H⟩)
    (none))
   (none))
  (none) := by kernel_rfl
/- loop.example/g03211/impl.NetworkOk -/
theorem e_iNetworkOk_0 (C : Oracle) (x26 : Sl) (x27 x28 y1_0 y1_1 y1_2 : Int) (y1_3 y1_4 : Sl) (H : AH) : (procM P T C (.loop F.iNetworkOk 0) [.sc (.sl x26), .sc (.int .i64 x27), .sc (.int .i64 x28), .agg [.int .i64 y1_0, .int .i64 y1_1, .int .i64 y1_2, .sl y1_3, .sl y1_4]] H).run =
  cond (decide (x28 < x27))
  ((ixA x26 x28 3).bind fun o5 =>
   (rdB H x26.b).bind fun c6 =>
   (slAt c6 o5).bind fun s7 =>
   (slAt c6 (o5 + 1)).bind fun s8 =>
   (slAt c6 (o5 + 1 + 1)).bind fun s9 =>
   (C (.fn F.iTensorOk) [.agg [.int .i64 y1_0, .int .i64 y1_1, .int .i64 y1_2], .agg [.sl s7, .sl s8, .sl s9]] H).bind fun r10 =>
   (oneP r10.vs).bind fun p11 =>
   p11.sc?.bind fun c12 =>
   (boolAt [c12] 0).bind fun b13 =>
   cond (!b13)
   (some ⟨1, [.sc (.bool false)], r10.H⟩)
   (C (.loop F.iNetworkOk 0) [.sc (.sl x26), .sc (.int .i64 x27), .sc (.int .i64 (IntKind.wrap .i64 (x28 + 1))), .agg [.int .i64 y1_0, .int .i64 y1_1, .int .i64 y1_2, .sl y1_3, .sl y1_4]] r10.H))
  (some ⟨2, [], H⟩) := by kernel_rfl
theorem e_iNetworkOk_1 (C : Oracle) (x47 : Sl) (x48 x49 : Int) (y5 : List Sc) (H : AH) : (procM P T C (.loop F.iNetworkOk 1) [.sc (.sl x47), .sc (.int .i64 x48), .sc (.int .i64 x49), .agg y5] H).run =
  cond (decide (x49 < x48))
  ((ixA x47 x49 1).bind fun o24 =>
   (rdB H x47.b).bind fun c25 =>
   (intAt .i64 c25 o24).bind fun n26 =>
   cond (decide (n26 < 0))
   (some ⟨1, [.sc (.bool false)], H⟩)
   (cond (decide (n26 > 99))
    (some ⟨1, [.sc (.bool false)], H⟩)
    ((ixA ⟨0, 0, 100, 100, true⟩ n26 1).bind fun o27 =>
     (intAt .i64 y5 o27).bind fun n28 =>
     cond (n28 == 0)
     (some ⟨1, [.sc (.bool false)], H⟩)
     (C (.loop F.iNetworkOk 1) [.sc (.sl x47), .sc (.int .i64 x48), .sc (.int .i64 (IntKind.wrap .i64 (x49 + 1))), .agg y5] H))))
  (some ⟨4, [], H⟩) := by kernel_rfl
theorem e_iNetworkOk (C : Oracle) (a0_0 a0_1 a0_2 : Int) (a0_3 a0_4 : Sl) (H : AH) : (procM P T C (.fn F.iNetworkOk) [.agg [.int .i64 a0_0, .int .i64 a0_1, .int .i64 a0_2, .sl a0_3, .sl a0_4]] H).run =
  (C (.fn F.iRingOk) [.agg [.int .i64 a0_0, .int .i64 a0_1, .int .i64 a0_2]] H).bind fun r1 =>
  (oneP r1.vs).bind fun p2 =>
  p2.sc?.bind fun c3 =>
  (boolAt [c3] 0).bind fun b4 =>
  cond (!b4)
  (some ⟨1, [.sc (.bool false)], r1.H⟩)
  (cond (decide ((a0_3.n : Int) > 12))
   (some ⟨1, [.sc (.bool false)], r1.H⟩)
   (cond (decide ((a0_4.n : Int) > 12))
    (some ⟨1, [.sc (.bool false)], r1.H⟩)
    ((C (.loop F.iNetworkOk 0) [.sc (.sl a0_3), .sc (.int .i64 (a0_3.n : Int)), .sc (.int .i64 0), .agg [.int .i64 a0_0, .int .i64 a0_1, .int .i64 a0_2, .sl a0_3, .sl a0_4]] r1.H).bind fun r14 =>
     cond (Nat.beq r14.e 1)
     ((nthP r14.vs 0).bind fun p15 =>
      p15.sc?.bind fun c16 =>
      (boolAt [c16] 0).bind fun b17 =>
      some ⟨1, [.sc (.bool b17)], r14.H⟩)
     (cond (Nat.beq r14.e 2)
      ((C (.fn F.idimsOf) [.sc (.sl a0_3)] r14.H).bind fun r18 =>
       (lenP r18.vs 2).bind fun _ =>
       (nthP r18.vs 0).bind fun p19 =>
       p19.agg?.bind fun l20 =>
       cond (decide (l20.length = 100))
       ((nthP r18.vs 1).bind fun p21 =>
        p21.sc?.bind fun c22 =>
        (boolAt [c22] 0).bind fun b23 =>
        cond (Nat.beq l20.length 100)
        (cond (decide (0 + l20.length ≤ (zc P Y.t100_int).length))
         (cond (!b23)
          (some ⟨1, [.sc (.bool false)], r18.H⟩)
          ((C (.loop F.iNetworkOk 1) [.sc (.sl a0_4), .sc (.int .i64 (a0_4.n : Int)), .sc (.int .i64 0), .agg (setAll (zc P Y.t100_int) 0 l20)] r18.H).bind fun r29 =>
           cond (Nat.beq r29.e 1)
           ((nthP r29.vs 0).bind fun p30 =>
            p30.sc?.bind fun c31 =>
            (boolAt [c31] 0).bind fun b32 =>
            some ⟨1, [.sc (.bool b32)], r29.H⟩)
           (cond (Nat.beq r29.e 4)
            (cond (decide (100 ≤ (setAll (zc P Y.t100_int) 0 l20).length))
             ((C (.fn F.iaxesOf) [.agg (((setAll (zc P Y.t100_int) 0 l20).drop 0).take 100), .sc (.sl a0_4)] r29.H).bind fun r33 =>
              (oneP r33.vs).bind fun p34 =>
              p34.agg?.bind fun l35 =>
              cond (decide (l35.length = 3))
              ((slAt l35 0).bind fun s36 =>
               (slAt l35 1).bind fun s37 =>
               (slAt l35 2).bind fun s38 =>
               (C (.fn F.iTensorSize) [.agg [.sl s36, .sl s37, .sl s38]] r33.H).bind fun r39 =>
               (oneP r39.vs).bind fun p40 =>
               p40.sc?.bind fun c41 =>
               (intAt .i64 [c41] 0).bind fun n42 =>
               some ⟨1, [.sc (.bool (n42 != (-1)))], r39.H⟩)
              (none))
             (none))
            (none))))
         (none))
        (none))
       (none))
      (none))))) := by kernel_rfl
/- loop.example/g03211/impl.ClosedLabels -/
theorem e_iClosedLabels_0 (C : Oracle) (x3 x7 : Sl) (x8 x9 y1_0 y1_1 y1_2 : Int) (y1_3 y1_4 : Sl) (H : AH) : (procM P T C (.loop F.iClosedLabels 0) [.sc (.sl x3), .sc (.sl x7), .sc (.int .i64 x8), .sc (.int .i64 x9), .agg [.int .i64 y1_0, .int .i64 y1_1, .int .i64 y1_2, .sl y1_3, .sl y1_4]] H).run =
  cond (decide (x9 < x8))
  ((ixA x7 x9 1).bind fun o5 =>
   (rdB H x7.b).bind fun c6 =>
   (intAt .i64 c6 o5).bind fun n7 =>
   (C (.fn F.ihasInt) [.sc (.sl y1_4), .sc (.int .i64 n7)] H).bind fun r8 =>
   (oneP r8.vs).bind fun p9 =>
   p9.sc?.bind fun c10 =>
   (boolAt [c10] 0).bind fun b11 =>
   cond (!b11)
   ((newB r8.H 1 [.int .i64 n7]).bind fun h12 =>
    (rng h12.2 h12.1 0 (1 * 1)).bind fun l13 =>
    (appB h12.2 1 8 x3 l13 1).bind fun m14 =>
    C (.loop F.iClosedLabels 0) [.sc (.sl m14.1), .sc (.sl x7), .sc (.int .i64 x8), .sc (.int .i64 (IntKind.wrap .i64 (x9 + 1))), .agg [.int .i64 y1_0, .int .i64 y1_1, .int .i64 y1_2, .sl y1_3, .sl y1_4]] m14.2)
   (C (.loop F.iClosedLabels 0) [.sc (.sl x3), .sc (.sl x7), .sc (.int .i64 x8), .sc (.int .i64 (IntKind.wrap .i64 (x9 + 1))), .agg [.int .i64 y1_0, .int .i64 y1_1, .int .i64 y1_2, .sl y1_3, .sl y1_4]] r8.H))
  (some ⟨2, [.sc (.sl x3)], H⟩) := by kernel_rfl
theorem e_iClosedLabels (C : Oracle) (a0_0 a0_1 a0_2 : Int) (a0_3 a0_4 : Sl) (H : AH) : (procM P T C (.fn F.iClosedLabels) [.agg [.int .i64 a0_0, .int .i64 a0_1, .int .i64 a0_2, .sl a0_3, .sl a0_4]] H).run =
  (C (.fn F.iLabelsOf) [.agg [.int .i64 a0_0, .int .i64 a0_1, .int .i64 a0_2, .sl a0_3, .sl a0_4]] H).bind fun r1 =>
  (oneP r1.vs).bind fun p2 =>
  p2.sc?.bind fun c3 =>
  (slAt [c3] 0).bind fun s4 =>
  (C (.loop F.iClosedLabels 0) [.sc (.sl ⟨0, 0, 0, 0, true⟩), .sc (.sl s4), .sc (.int .i64 (s4.n : Int)), .sc (.int .i64 0), .agg [.int .i64 a0_0, .int .i64 a0_1, .int .i64 a0_2, .sl a0_3, .sl a0_4]] r1.H).bind fun r15 =>
  cond (Nat.beq r15.e 2)
  ((nthP r15.vs 0).bind fun p16 =>
   p16.sc?.bind fun c17 =>
   (slAt [c17] 0).bind fun s18 =>
   some ⟨1, [.sc (.sl s18)], r15.H⟩)
  (none) := by kernel_rfl
/- loop.example/g03211/impl.hasInt -/
theorem e_ihasInt_0 (C : Oracle) (x1 : Int) (x7 : Sl) (x8 x9 : Int) (H : AH) : (procM P T C (.loop F.ihasInt 0) [.sc (.int .i64 x1), .sc (.sl x7), .sc (.int .i64 x8), .sc (.int .i64 x9)] H).run =
  cond (decide (x9 < x8))
  ((ixA x7 x9 1).bind fun o1 =>
   (rdB H x7.b).bind fun c2 =>
   (intAt .i64 c2 o1).bind fun n3 =>
   cond (x1 == n3)
   (some ⟨1, [.sc (.bool true)], H⟩)
   (C (.loop F.ihasInt 0) [.sc (.int .i64 x1), .sc (.sl x7), .sc (.int .i64 x8), .sc (.int .i64 (IntKind.wrap .i64 (x9 + 1)))] H))
  (some ⟨2, [], H⟩) := by kernel_rfl
theorem e_ihasInt (C : Oracle) (a0 : Sl) (a1 : Int) (H : AH) : (procM P T C (.fn F.ihasInt) [.sc (.sl a0), .sc (.int .i64 a1)] H).run =
  (C (.loop F.ihasInt 0) [.sc (.int .i64 a1), .sc (.sl a0), .sc (.int .i64 (a0.n : Int)), .sc (.int .i64 0)] H).bind fun r4 =>
  cond (Nat.beq r4.e 1)
  ((nthP r4.vs 0).bind fun p5 =>
   p5.sc?.bind fun c6 =>
   (boolAt [c6] 0).bind fun b7 =>
   some ⟨1, [.sc (.bool b7)], r4.H⟩)
  (cond (Nat.beq r4.e 2)
   (some ⟨1, [.sc (.bool false)], r4.H⟩)
   (none)) := by kernel_rfl
/- loop.example/g03211/impl.dimsOf -/
theorem e_idimsOf_0 (C : Oracle) (x9 : Sl) (x10 x11 : Int) (y2 y4 : List Sc) (H : AH) : (procM P T C (.loop F.idimsOf 0) [.sc (.sl x9), .sc (.int .i64 x10), .sc (.int .i64 x11), .agg y2, .agg y4] H).run =
  cond (decide (x11 < x10))
  ((ixA x9 x11 3).bind fun o1 =>
   (rdB H x9.b).bind fun c2 =>
   (slAt c2 o1).bind fun s3 =>
   (slAt c2 (o1 + 1)).bind fun s4 =>
   (slAt c2 (o1 + 1 + 1)).bind fun s5 =>
   (C (.loop F.idimsOf 1) [.sc (.sl s3), .sc (.int .i64 (s3.n : Int)), .sc (.int .i64 0), .agg y2, .agg y4, .agg [.sl s3, .sl s4, .sl s5]] H).bind fun r26 =>
   cond (Nat.beq r26.e 1)
   ((nthP r26.vs 0).bind fun p27 =>
    p27.sc?.bind fun c28 =>
    (boolAt [c28] 0).bind fun b29 =>
    ((nthP r26.vs 1).bind PV.agg?).bind fun l30 =>
    cond (decide (l30.length = 100))
    (((nthP r26.vs 2).bind PV.agg?).bind fun l31 =>
     cond (decide (l31.length = 100))
     (some ⟨1, [.sc (.bool b29), .agg l30, .agg l31], r26.H⟩)
     (none))
    (none))
   (cond (Nat.beq r26.e 4)
    (((nthP r26.vs 0).bind PV.agg?).bind fun l32 =>
     cond (decide (l32.length = 100))
     (((nthP r26.vs 1).bind PV.agg?).bind fun l33 =>
      cond (decide (l33.length = 100))
      (C (.loop F.idimsOf 0) [.sc (.sl x9), .sc (.int .i64 x10), .sc (.int .i64 (IntKind.wrap .i64 (x11 + 1))), .agg l32, .agg l33] r26.H)
      (none))
     (none))
    (none)))
  (some ⟨2, [.agg y2, .agg y4], H⟩) := by kernel_rfl
theorem e_idimsOf_1 (C : Oracle) (x16 : Sl) (x17 x18 : Int) (y2 y4 : List Sc) (y6_0 y6_1 y6_2 : Sl) (H : AH) : (procM P T C (.loop F.idimsOf 1) [.sc (.sl x16), .sc (.int .i64 x17), .sc (.int .i64 x18), .agg y2, .agg y4, .agg [.sl y6_0, .sl y6_1, .sl y6_2]] H).run =
  cond (decide (x18 < x17))
  ((ixA x16 x18 1).bind fun o6 =>
   (rdB H x16.b).bind fun c7 =>
   (intAt .i64 c7 o6).bind fun n8 =>
   (((ixA ⟨0, 0, 100, 100, true⟩ n8 1).bind fun o9 =>
   (intAt .i64 y4 o9).bind fun n10 =>
   cond (n10 != 0)
   ((ixA ⟨0, 0, 100, 100, true⟩ n8 1).bind fun o11 =>
    (intAt .i64 y4 o11).bind fun n12 =>
    (ixA y6_1 x18 1).bind fun o13 =>
    (rdB H y6_1.b).bind fun c14 =>
    (intAt .i64 c14 o13).bind fun n15 =>
    cond (n12 != n15)
    (cond (decide (100 ≤ y4.length))
     (cond (Nat.beq ((y4.drop 0).take 100).length 100)
      (cond (decide (0 + ((y4.drop 0).take 100).length ≤ y2.length))
       (some ⟨1, [.sc (.bool false), .agg (setAll y2 0 ((y4.drop 0).take 100))], H⟩)
       (none))
      (none))
     (none))
    (some ⟨0, [.agg y2], H⟩))
   (some ⟨0, [.agg y2], H⟩) : Option Out)).bind fun r16 =>
   cond (Nat.beq r16.e 0)
   (((nthP r16.vs 0).bind PV.agg?).bind fun l17 =>
    cond (decide (l17.length = 100))
    ((ixA y6_1 x18 1).bind fun o18 =>
     (rdB r16.H y6_1.b).bind fun c19 =>
     (intAt .i64 c19 o18).bind fun n20 =>
     (ixA ⟨0, 0, 100, 100, true⟩ n8 1).bind fun o21 =>
     cond (decide (o21 + 1 ≤ y4.length))
     (C (.loop F.idimsOf 1) [.sc (.sl x16), .sc (.int .i64 x17), .sc (.int .i64 (IntKind.wrap .i64 (x18 + 1))), .agg l17, .agg (y4.set o21 (.int .i64 n20)), .agg [.sl y6_0, .sl y6_1, .sl y6_2]] r16.H)
     (none))
    (none))
   (cond (Nat.beq r16.e 1)
    ((nthP r16.vs 0).bind fun p22 =>
     p22.sc?.bind fun c23 =>
     (boolAt [c23] 0).bind fun b24 =>
     ((nthP r16.vs 1).bind PV.agg?).bind fun l25 =>
     cond (decide (l25.length = 100))
     (some ⟨1, [.sc (.bool b24), .agg l25, .agg y4], r16.H⟩)
     (none))
    (none)))
  (some ⟨4, [.agg y2, .agg y4], H⟩) := by kernel_rfl
theorem e_idimsOf (C : Oracle) (a0 : Sl) (H : AH) : (procM P T C (.fn F.idimsOf) [.sc (.sl a0)] H).run =
  (C (.loop F.idimsOf 0) [.sc (.sl a0), .sc (.int .i64 (a0.n : Int)), .sc (.int .i64 0), .agg (zc P Y.t100_int), .agg (zc P Y.t100_int)] H).bind fun r34 =>
  cond (Nat.beq r34.e 1)
  ((nthP r34.vs 0).bind fun p35 =>
   p35.sc?.bind fun c36 =>
   (boolAt [c36] 0).bind fun b37 =>
   ((nthP r34.vs 1).bind PV.agg?).bind fun l38 =>
   cond (decide (l38.length = 100))
   (((nthP r34.vs 2).bind PV.agg?).bind fun l39 =>
    cond (decide (l39.length = 100))
    (cond (decide (100 ≤ l38.length))
     (some ⟨1, [.agg ((l38.drop 0).take 100), .sc (.bool b37)], r34.H⟩)
     (none))
    (none))
   (none))
  (cond (Nat.beq r34.e 2)
   (((nthP r34.vs 0).bind PV.agg?).bind fun l40 =>
    cond (decide (l40.length = 100))
    (((nthP r34.vs 1).bind PV.agg?).bind fun l41 =>
     cond (decide (l41.length = 100))
     (cond (decide (100 ≤ l41.length))
      (cond (Nat.beq ((l41.drop 0).take 100).length 100)
       (cond (decide (0 + ((l41.drop 0).take 100).length ≤ l40.length))
        (cond (decide (100 ≤ (setAll l40 0 ((l41.drop 0).take 100)).length))
         (some ⟨1, [.agg (((setAll l40 0 ((l41.drop 0).take 100)).drop 0).take 100), .sc (.bool true)], r34.H⟩)
         (none))
        (none))
       (none))
      (none))
     (none))
    (none))
   (none)) := by kernel_rfl
/- loop.example/g03211/impl.productOf -/
theorem e_iproductOf_0 (C : Oracle) (x3 : Int) (x6 : Sl) (x7 x8 : Int) (H : AH) : (procM P T C (.loop F.iproductOf 0) [.sc (.int .i64 x3), .sc (.sl x6), .sc (.int .i64 x7), .sc (.int .i64 x8)] H).run =
  cond (decide (x8 < x7))
  ((ixA x6 x8 1).bind fun o1 =>
   (rdB H x6.b).bind fun c2 =>
   (intAt .i64 c2 o1).bind fun n3 =>
   C (.loop F.iproductOf 0) [.sc (.int .i64 (IntKind.wrap .i64 (x3 * n3))), .sc (.sl x6), .sc (.int .i64 x7), .sc (.int .i64 (IntKind.wrap .i64 (x8 + 1)))] H)
  (some ⟨2, [.sc (.int .i64 x3)], H⟩) := by kernel_rfl
theorem e_iproductOf (C : Oracle) (a0 : Sl) (H : AH) : (procM P T C (.fn F.iproductOf) [.sc (.sl a0)] H).run =
  (C (.loop F.iproductOf 0) [.sc (.int .i64 1), .sc (.sl a0), .sc (.int .i64 (a0.n : Int)), .sc (.int .i64 0)] H).bind fun r4 =>
  cond (Nat.beq r4.e 2)
  ((nthP r4.vs 0).bind fun p5 =>
   p5.sc?.bind fun c6 =>
   (intAt .i64 [c6] 0).bind fun n7 =>
   some ⟨1, [.sc (.int .i64 n7)], r4.H⟩)
  (none) := by kernel_rfl
/- loop.example/g03211/impl.axesOf -/
theorem e_iaxesOf_0 (C : Oracle) (x14 : Sl) (x15 x16 : Int) (y2 : List Sc) (y5_0 y5_1 y5_2 : Sl) (H : AH) : (procM P T C (.loop F.iaxesOf 0) [.sc (.sl x14), .sc (.int .i64 x15), .sc (.int .i64 x16), .agg y2, .agg [.sl y5_0, .sl y5_1, .sl y5_2]] H).run =
  cond (decide (x16 < x15))
  ((ixA x14 x16 1).bind fun o6 =>
   (rdB H x14.b).bind fun c7 =>
   (intAt .i64 c7 o6).bind fun n8 =>
   (ixA ⟨0, 0, 100, 100, true⟩ n8 1).bind fun o9 =>
   (intAt .i64 y2 o9).bind fun n10 =>
   (ixA y5_1 x16 1).bind fun o11 =>
   (putR H y5_1.b o11 [.int .i64 n10]).bind fun H12 =>
   C (.loop F.iaxesOf 0) [.sc (.sl x14), .sc (.int .i64 x15), .sc (.int .i64 (IntKind.wrap .i64 (x16 + 1))), .agg y2, .agg [.sl y5_0, .sl y5_1, .sl y5_2]] H12)
  (some ⟨2, [], H⟩) := by kernel_rfl
theorem e_iaxesOf (C : Oracle) (a0 : List Sc) (a1 : Sl) (H : AH) : (procM P T C (.fn F.iaxesOf) [.agg a0, .sc (.sl a1)] H).run =
  (C (.fn F.icopyInts) [.sc (.sl a1)] ((reserve H 1).set (H.length + 0) deadB)).bind fun r1 =>
  (oneP r1.vs).bind fun p2 =>
  p2.sc?.bind fun c3 =>
  (slAt [c3] 0).bind fun s4 =>
  cond (decide (r1.H.length ≥ (reserve H 1).length))
  ((mkAt (restB (reserve H 1) r1.H (H.length + 0)) (H.length + 0) 1 8 [.int .i64 0] (a1.n : Int) (a1.n : Int)).bind fun m5 =>
   (C (.loop F.iaxesOf 0) [.sc (.sl a1), .sc (.int .i64 (a1.n : Int)), .sc (.int .i64 0), .agg a0, .agg [.sl s4, .sl m5.1, .sl ⟨0, 0, 0, 0, true⟩]] m5.2).bind fun r13 =>
   cond (Nat.beq r13.e 2)
   (some ⟨1, [.agg [.sl s4, .sl m5.1, .sl ⟨0, 0, 0, 0, true⟩]], r13.H⟩)
   (none))
  (none) := by kernel_rfl
/- loop.example/g03211/impl.OrderCosts -/
theorem e_iOrderCosts_0 (C : Oracle) (x5 : Sl) (x6b x6o : Nat) (x17 : Sl) (x18 x19 : Int) (H : AH) : (procM P T C (.loop F.iOrderCosts 0) [.sc (.sl x5), .sc (.hp x6b x6o), .sc (.sl x17), .sc (.int .i64 x18), .sc (.int .i64 x19)] H).run =
  cond (decide (x19 < x18))
  ((ixA x17 x19 2).bind fun o9 =>
   (rdB H x17.b).bind fun c10 =>
   (intAt .i64 c10 o9).bind fun n11 =>
   (intAt .i64 c10 (o9 + 1)).bind fun n12 =>
   (C (.fn F.x__impl_orderState__place) [.sc (.hp x6b x6o), .sc (.int .i64 n11)] H).bind fun r13 =>
   (oneP r13.vs).bind fun p14 =>
   p14.sc?.bind fun c15 =>
   (intAt .i64 [c15] 0).bind fun n16 =>
   (C (.fn F.x__impl_orderState__place) [.sc (.hp x6b x6o), .sc (.int .i64 n12)] r13.H).bind fun r17 =>
   (oneP r17.vs).bind fun p18 =>
   p18.sc?.bind fun c19 =>
   (intAt .i64 [c19] 0).bind fun n20 =>
   (rdB (reserve r17.H 1) x6b).bind fun c21 =>
   (slAt c21 (x6o + 101)).bind fun s22 =>
   (ixA s22 n16 2).bind fun o23 =>
   (rdB (reserve r17.H 1) s22.b).bind fun c24 =>
   (slAt c24 (o23 + 1)).bind fun s25 =>
   (rdB (reserve r17.H 1) x6b).bind fun c26 =>
   (slAt c26 (x6o + 101)).bind fun s27 =>
   (ixA s27 n20 2).bind fun o28 =>
   (rdB (reserve r17.H 1) s27.b).bind fun c29 =>
   (slAt c29 (o28 + 1)).bind fun s30 =>
   (C (.fn F.ijoinLabels) [.sc (.sl s25), .sc (.sl s30)] (reserve r17.H 1)).bind fun r31 =>
   (oneP r31.vs).bind fun p32 =>
   p32.sc?.bind fun c33 =>
   (slAt [c33] 0).bind fun s34 =>
   (C (.fn F.x__impl_orderState__size) [.sc (.hp x6b x6o), .sc (.sl s34)] r31.H).bind fun r35 =>
   (oneP r35.vs).bind fun p36 =>
   p36.sc?.bind fun c37 =>
   (intAt .i64 [c37] 0).bind fun n38 =>
   (newAt r35.H (r17.H.length + 0) 1 [.int .i64 n38]).bind fun h39 =>
   (rng h39.2 h39.1 0 (1 * 1)).bind fun l40 =>
   (appB h39.2 1 8 x5 l40 1).bind fun m41 =>
   (C (.fn F.x__impl_orderState__contract) [.sc (.hp x6b x6o), .sc (.int .i64 n16), .sc (.int .i64 n20)] m41.2).bind fun r42 =>
   (oneP r42.vs).bind fun p43 =>
   p43.agg?.bind fun l44 =>
   cond (decide (l44.length = 2))
   ((intAt .i64 l44 0).bind fun n45 =>
    (intAt .i64 l44 1).bind fun n46 =>
    C (.loop F.iOrderCosts 0) [.sc (.sl m41.1), .sc (.hp x6b x6o), .sc (.sl x17), .sc (.int .i64 x18), .sc (.int .i64 (IntKind.wrap .i64 (x19 + 1)))] r42.H)
   (none))
  (some ⟨2, [.sc (.sl x5)], H⟩) := by kernel_rfl
theorem e_iOrderCosts (C : Oracle) (a0_0 a0_1 a0_2 : Int) (a0_3 a0_4 a1 : Sl) (H : AH) : (procM P T C (.fn F.iOrderCosts) [.agg [.int .i64 a0_0, .int .i64 a0_1, .int .i64 a0_2, .sl a0_3, .sl a0_4], .sc (.sl a1)] H).run =
  (C (.fn F.iOrderOk) [.agg [.int .i64 a0_0, .int .i64 a0_1, .int .i64 a0_2, .sl a0_3, .sl a0_4], .sc (.sl a1)] H).bind fun r1 =>
  (oneP r1.vs).bind fun p2 =>
  p2.sc?.bind fun c3 =>
  (boolAt [c3] 0).bind fun b4 =>
  cond (!b4)
  (some ⟨1, [.sc (.sl ⟨0, 0, 0, 0, true⟩)], r1.H⟩)
  ((C (.fn F.istartState) [.agg [.int .i64 a0_0, .int .i64 a0_1, .int .i64 a0_2, .sl a0_3, .sl a0_4]] r1.H).bind fun r5 =>
   (oneP r5.vs).bind fun p6 =>
   p6.sc?.bind fun c7 =>
   (ptrAt [c7] 0).bind fun p8 =>
   (C (.loop F.iOrderCosts 0) [.sc (.sl ⟨0, 0, 0, 0, true⟩), .sc (.hp p8.1 p8.2), .sc (.sl a1), .sc (.int .i64 (a1.n : Int)), .sc (.int .i64 0)] r5.H).bind fun r47 =>
   cond (Nat.beq r47.e 2)
   ((nthP r47.vs 0).bind fun p48 =>
    p48.sc?.bind fun c49 =>
    (slAt [c49] 0).bind fun s50 =>
    some ⟨1, [.sc (.sl s50)], r47.H⟩)
   (none)) := by kernel_rfl
/- loop.example/g03211/impl.indexIn -/
theorem e_iindexIn_0 (C : Oracle) (x0 : Sl) (x1 : Int) (x5 : Sl) (x6 : Int) (H : AH) : (procM P T C (.loop F.iindexIn 0) [.sc (.sl x0), .sc (.int .i64 x1), .sc (.sl x5), .sc (.int .i64 x6)] H).run =
  cond (decide (x6 ≥ 0))
  ((ixA x0 x6 1).bind fun o2 =>
   (rdB H x0.b).bind fun c3 =>
   (intAt .i64 c3 o2).bind fun n4 =>
   cond (n4 == 0)
   (none)
   ((ixA x5 x6 1).bind fun o5 =>
    (putR H x5.b o5 [.int .i64 (Int.tmod x1 n4)]).bind fun H6 =>
    (ixA x0 x6 1).bind fun o7 =>
    (rdB H6 x0.b).bind fun c8 =>
    (intAt .i64 c8 o7).bind fun n9 =>
    cond (n9 == 0)
    (none)
    (C (.loop F.iindexIn 0) [.sc (.sl x0), .sc (.int .i64 (IntKind.wrap .i64 (Int.tdiv x1 n9))), .sc (.sl x5), .sc (.int .i64 (IntKind.wrap .i64 (x6 - 1)))] H6)))
  (some ⟨2, [], H⟩) := by kernel_rfl
theorem e_iindexIn (C : Oracle) (a0 : Sl) (a1 : Int) (H : AH) : (procM P T C (.fn F.iindexIn) [.sc (.sl a0), .sc (.int .i64 a1)] H).run =
  (mkB H 1 8 [.int .i64 0] (a0.n : Int) (a0.n : Int)).bind fun m1 =>
  (C (.loop F.iindexIn 0) [.sc (.sl a0), .sc (.int .i64 a1), .sc (.sl m1.1), .sc (.int .i64 (IntKind.wrap .i64 ((a0.n : Int) - 1)))] m1.2).bind fun r10 =>
  cond (Nat.beq r10.e 2)
  (some ⟨1, [.sc (.sl m1.1)], r10.H⟩)
  (none) := by kernel_rfl
/- loop.example/g03211/impl.SliceNetwork -/
theorem e_iSliceNetwork_0 (C : Oracle) (x1 x2 : Int) (x35 : Sl) (x36 x37 y3_0 y3_1 y3_2 : Int) (y3_3 y3_4 : Sl) (y8_0 y8_1 y8_2 : Int) (y8_3 y8_4 : Sl) (H : AH) : (procM P T C (.loop F.iSliceNetwork 0) [.sc (.int .i64 x1), .sc (.int .i64 x2), .sc (.sl x35), .sc (.int .i64 x36), .sc (.int .i64 x37), .agg [.int .i64 y3_0, .int .i64 y3_1, .int .i64 y3_2, .sl y3_3, .sl y3_4], .agg [.int .i64 y8_0, .int .i64 y8_1, .int .i64 y8_2, .sl y8_3, .sl y8_4]] H).run =
  cond (decide (x37 < x36))
  ((ixA x35 x37 3).bind fun o13 =>
   (rdB H x35.b).bind fun c14 =>
   (slAt c14 o13).bind fun s15 =>
   (slAt c14 (o13 + 1)).bind fun s16 =>
   (slAt c14 (o13 + 1 + 1)).bind fun s17 =>
   (C (.fn F.icopyTensor) [.agg [.sl s15, .sl s16, .sl s17]] H).bind fun r18 =>
   (oneP r18.vs).bind fun p19 =>
   p19.agg?.bind fun l20 =>
   cond (decide (l20.length = 3))
   ((slAt l20 0).bind fun s21 =>
    (slAt l20 1).bind fun s22 =>
    (slAt l20 2).bind fun s23 =>
    (((C (.fn F.iaxisOf) [.agg [.sl s15, .sl s16, .sl s17], .sc (.int .i64 x1)] r18.H).bind fun r24 =>
   (oneP r24.vs).bind fun p25 =>
   p25.sc?.bind fun c26 =>
   (intAt .i64 [c26] 0).bind fun n27 =>
   cond (decide (n27 ≥ 0))
   ((C (.fn F.iSliceTensor) [.agg [.int .i64 y3_0, .int .i64 y3_1, .int .i64 y3_2], .agg [.sl s15, .sl s16, .sl s17], .sc (.int .i64 x1), .sc (.int .i64 x2)] r24.H).bind fun r28 =>
    (lenP r28.vs 2).bind fun _ =>
    (nthP r28.vs 0).bind fun p29 =>
    p29.agg?.bind fun l30 =>
    cond (decide (l30.length = 3))
    ((slAt l30 0).bind fun s31 =>
     (slAt l30 1).bind fun s32 =>
     (slAt l30 2).bind fun s33 =>
     (nthP r28.vs 1).bind fun p34 =>
     p34.sc?.bind fun c35 =>
     (boolAt [c35] 0).bind fun b36 =>
     some ⟨0, [.agg [.sl s31, .sl s32, .sl s33]], r28.H⟩)
    (none))
   (some ⟨0, [.agg [.sl s21, .sl s22, .sl s23]], r24.H⟩) : Option Out)).bind fun r37 =>
    cond (Nat.beq r37.e 0)
    (((nthP r37.vs 0).bind PV.agg?).bind fun l38 =>
     cond (decide (l38.length = 3))
     ((slAt l38 0).bind fun s39 =>
      (slAt l38 1).bind fun s40 =>
      (slAt l38 2).bind fun s41 =>
      (newB r37.H 3 [.sl s39, .sl s40, .sl s41]).bind fun h42 =>
      (rng h42.2 h42.1 0 (1 * 3)).bind fun l43 =>
      (appB h42.2 3 72 y8_3 l43 1).bind fun m44 =>
      C (.loop F.iSliceNetwork 0) [.sc (.int .i64 x1), .sc (.int .i64 x2), .sc (.sl x35), .sc (.int .i64 x36), .sc (.int .i64 (IntKind.wrap .i64 (x37 + 1))), .agg [.int .i64 y3_0, .int .i64 y3_1, .int .i64 y3_2, .sl y3_3, .sl y3_4], .agg [.int .i64 y8_0, .int .i64 y8_1, .int .i64 y8_2, .sl m44.1, .sl y8_4]] m44.2)
     (none))
    (none))
   (none))
  (some ⟨2, [.agg [.int .i64 y8_0, .int .i64 y8_1, .int .i64 y8_2, .sl y8_3, .sl y8_4]], H⟩) := by kernel_rfl
theorem e_iSliceNetwork (C : Oracle) (a0_0 a0_1 a0_2 : Int) (a0_3 a0_4 : Sl) (a1 a2 : Int) (H : AH) : (procM P T C (.fn F.iSliceNetwork) [.agg [.int .i64 a0_0, .int .i64 a0_1, .int .i64 a0_2, .sl a0_3, .sl a0_4], .sc (.int .i64 a1), .sc (.int .i64 a2)] H).run =
  (C (.fn F.iNetworkOk) [.agg [.int .i64 a0_0, .int .i64 a0_1, .int .i64 a0_2, .sl a0_3, .sl a0_4]] H).bind fun r1 =>
  (oneP r1.vs).bind fun p2 =>
  p2.sc?.bind fun c3 =>
  (boolAt [c3] 0).bind fun b4 =>
  cond (!b4)
  (some ⟨1, [.agg [.int .i64 0, .int .i64 0, .int .i64 0, .sl ⟨0, 0, 0, 0, true⟩, .sl ⟨0, 0, 0, 0, true⟩], .sc (.bool false)], r1.H⟩)
  (cond (decide (a2 < 0))
   (some ⟨1, [.agg [.int .i64 0, .int .i64 0, .int .i64 0, .sl ⟨0, 0, 0, 0, true⟩, .sl ⟨0, 0, 0, 0, true⟩], .sc (.bool false)], r1.H⟩)
   ((C (.fn F.iDimOf) [.agg [.int .i64 a0_0, .int .i64 a0_1, .int .i64 a0_2, .sl a0_3, .sl a0_4], .sc (.int .i64 a1)] r1.H).bind fun r5 =>
    (oneP r5.vs).bind fun p6 =>
    p6.sc?.bind fun c7 =>
    (intAt .i64 [c7] 0).bind fun n8 =>
    cond (decide (a2 ≥ n8))
    (some ⟨1, [.agg [.int .i64 0, .int .i64 0, .int .i64 0, .sl ⟨0, 0, 0, 0, true⟩, .sl ⟨0, 0, 0, 0, true⟩], .sc (.bool false)], r5.H⟩)
    ((C (.fn F.iwithoutInt) [.sc (.sl a0_4), .sc (.int .i64 a1)] r5.H).bind fun r9 =>
     (oneP r9.vs).bind fun p10 =>
     p10.sc?.bind fun c11 =>
     (slAt [c11] 0).bind fun s12 =>
     (C (.loop F.iSliceNetwork 0) [.sc (.int .i64 a1), .sc (.int .i64 a2), .sc (.sl a0_3), .sc (.int .i64 (a0_3.n : Int)), .sc (.int .i64 0), .agg [.int .i64 a0_0, .int .i64 a0_1, .int .i64 a0_2, .sl a0_3, .sl a0_4], .agg [.int .i64 a0_0, .int .i64 a0_1, .int .i64 a0_2, .sl ⟨0, 0, 0, 0, true⟩, .sl s12]] r9.H).bind fun r45 =>
     cond (Nat.beq r45.e 2)
     (((nthP r45.vs 0).bind PV.agg?).bind fun l46 =>
      cond (decide (l46.length = 5))
      ((intAt .i64 l46 0).bind fun n47 =>
       (intAt .i64 l46 1).bind fun n48 =>
       (intAt .i64 l46 2).bind fun n49 =>
       (slAt l46 3).bind fun s50 =>
       (slAt l46 4).bind fun s51 =>
       some ⟨1, [.agg [.int .i64 n47, .int .i64 n48, .int .i64 n49, .sl s50, .sl s51], .sc (.bool true)], r45.H⟩)
      (none))
     (none)))) := by kernel_rfl
/- loop.example/g03211/spec.TensorSize -/
theorem e_sTensorSize (C : Oracle) (a0_0 a0_1 a0_2 : Sl) (H : AH) : (procM P T C (.fn F.sTensorSize) [.agg [.sl a0_0, .sl a0_1, .sl a0_2]] H).run =
  (C (.fn F.sl05Axes) [.sc (.sl a0_0), .sc (.sl a0_1)] H).bind fun r1 =>
  (oneP r1.vs).bind fun p2 =>
  p2.sc?.bind fun c3 =>
  (boolAt [c3] 0).bind fun b4 =>
  cond (!b4)
  (some ⟨1, [.sc (.int .i64 (-1))], r1.H⟩)
  ((C (.fn F.sl05Product) [.sc (.sl a0_1), .sc (.int .i64 4096)] r1.H).bind fun r5 =>
   (oneP r5.vs).bind fun p6 =>
   p6.sc?.bind fun c7 =>
   (intAt .i64 [c7] 0).bind fun n8 =>
   cond (decide (n8 > 4096))
   (some ⟨1, [.sc (.int .i64 (-1))], r5.H⟩)
   (some ⟨1, [.sc (.int .i64 n8)], r5.H⟩)) := by kernel_rfl
/- loop.example/g03211/spec.l01In -/
theorem e_sl01In (C : Oracle) (a0 a1 a2 : Int) (H : AH) : (procM P T C (.fn F.sl01In) [.sc (.int .i64 a0), .sc (.int .i64 a1), .sc (.int .i64 a2)] H).run =
  cond (decide (a0 ≥ a1))
  (some ⟨1, [.sc (.bool (decide (a0 ≤ a2)))], H⟩)
  (some ⟨1, [.sc (.bool false)], H⟩) := by kernel_rfl
/- loop.example/g03211/spec.l12Dim -/
theorem e_sl12Dim_0 (C : Oracle) (x1 : Int) (x8 : Sl) (x9 x10 : Int) (H : AH) : (procM P T C (.loop F.sl12Dim 0) [.sc (.int .i64 x1), .sc (.sl x8), .sc (.int .i64 x9), .sc (.int .i64 x10)] H).run =
  cond (decide (x10 < x9))
  ((ixA x8 x10 3).bind fun o1 =>
   (rdB H x8.b).bind fun c2 =>
   (slAt c2 o1).bind fun s3 =>
   (slAt c2 (o1 + 1)).bind fun s4 =>
   (slAt c2 (o1 + 1 + 1)).bind fun s5 =>
   (C (.fn F.sl05Find) [.sc (.sl s3), .sc (.int .i64 x1)] H).bind fun r6 =>
   (oneP r6.vs).bind fun p7 =>
   p7.sc?.bind fun c8 =>
   (intAt .i64 [c8] 0).bind fun n9 =>
   cond (decide (n9 ≥ 0))
   ((ixA s4 n9 1).bind fun o10 =>
    (rdB r6.H s4.b).bind fun c11 =>
    (intAt .i64 c11 o10).bind fun n12 =>
    some ⟨1, [.sc (.int .i64 n12)], r6.H⟩)
   (C (.loop F.sl12Dim 0) [.sc (.int .i64 x1), .sc (.sl x8), .sc (.int .i64 x9), .sc (.int .i64 (IntKind.wrap .i64 (x10 + 1)))] r6.H))
  (some ⟨2, [], H⟩) := by kernel_rfl
theorem e_sl12Dim (C : Oracle) (a0 : Sl) (a1 : Int) (H : AH) : (procM P T C (.fn F.sl12Dim) [.sc (.sl a0), .sc (.int .i64 a1)] H).run =
  (C (.loop F.sl12Dim 0) [.sc (.int .i64 a1), .sc (.sl a0), .sc (.int .i64 (a0.n : Int)), .sc (.int .i64 0)] H).bind fun r13 =>
  cond (Nat.beq r13.e 1)
  ((nthP r13.vs 0).bind fun p14 =>
   p14.sc?.bind fun c15 =>
   (intAt .i64 [c15] 0).bind fun n16 =>
   some ⟨1, [.sc (.int .i64 n16)], r13.H⟩)
  (cond (Nat.beq r13.e 2)
   (some ⟨1, [.sc (.int .i64 0)], r13.H⟩)
   (none)) := by kernel_rfl
/- loop.example/g03211/spec.l17New -/
theorem e_sl17New_0 (C : Oracle) (x3b x3o : Nat) (x9 : Sl) (x10 x11 : Int) (H : AH) : (procM P T C (.loop F.sl17New 0) [.sc (.hp x3b x3o), .sc (.sl x9), .sc (.int .i64 x10), .sc (.int .i64 x11)] H).run =
  cond (decide (x11 < x10))
  ((ixA x9 x11 3).bind fun o2 =>
   (rdB H x9.b).bind fun c3 =>
   (slAt c3 o2).bind fun s4 =>
   (slAt c3 (o2 + 1)).bind fun s5 =>
   (slAt c3 (o2 + 1 + 1)).bind fun s6 =>
   (rdB ((reserve H 1).set (H.length + 0) deadB) x3b).bind fun c7 =>
   (slAt c7 (x3o + 0)).bind fun s8 =>
   (newAt (reserve H 1) (H.length + 0) 3 [.sl s4, .sl s5, .sl ⟨0, 0, 0, 0, true⟩]).bind fun h9 =>
   (rng h9.2 h9.1 0 (1 * 3)).bind fun l10 =>
   (appB h9.2 3 72 s8 l10 1).bind fun m11 =>
   (putR m11.2 x3b (x3o + 0) [.sl m11.1]).bind fun H12 =>
   (rdB H12 x3b).bind fun c13 =>
   (slAt c13 (x3o + 1)).bind fun s14 =>
   (newB H12 1 [.bool false]).bind fun h15 =>
   (rng h15.2 h15.1 0 (1 * 1)).bind fun l16 =>
   (appB h15.2 1 1 s14 l16 1).bind fun m17 =>
   (putR m17.2 x3b (x3o + 1) [.sl m17.1]).bind fun H18 =>
   C (.loop F.sl17New 0) [.sc (.hp x3b x3o), .sc (.sl x9), .sc (.int .i64 x10), .sc (.int .i64 (IntKind.wrap .i64 (x11 + 1)))] H18)
  (some ⟨2, [], H⟩) := by kernel_rfl
theorem e_sl17New (C : Oracle) (a0_0 a0_1 a0_2 : Int) (a0_3 a0_4 : Sl) (H : AH) : (procM P T C (.fn F.sl17New) [.agg [.int .i64 a0_0, .int .i64 a0_1, .int .i64 a0_2, .sl a0_3, .sl a0_4]] H).run =
  (newB H 2 [.sl ⟨0, 0, 0, 0, true⟩, .sl ⟨0, 0, 0, 0, true⟩]).bind fun h1 =>
  (C (.loop F.sl17New 0) [.sc (.hp h1.1 0), .sc (.sl a0_3), .sc (.int .i64 (a0_3.n : Int)), .sc (.int .i64 0)] h1.2).bind fun r19 =>
  cond (Nat.beq r19.e 2)
  (some ⟨1, [.sc (.hp h1.1 0)], r19.H⟩)
  (none) := by kernel_rfl
/- loop.example/g03211/spec.l17Step -/
theorem e_sl17Step (C : Oracle) (a0b a0o : Nat) (a1 : Sl) (a2_0 a2_1 : Int) (H : AH) : (procM P T C (.fn F.sl17Step) [.sc (.hp a0b a0o), .sc (.sl a1), .agg [.int .i64 a2_0, .int .i64 a2_1]] H).run =
  (rdB H a0b).bind fun c1 =>
  (slAt c1 (a0o + 0)).bind fun s2 =>
  (ixA s2 a2_0 3).bind fun o3 =>
  (rdB H s2.b).bind fun c4 =>
  (slAt c4 o3).bind fun s5 =>
  (slAt c4 (o3 + 1)).bind fun s6 =>
  (slAt c4 (o3 + 1 + 1)).bind fun s7 =>
  (rdB H a0b).bind fun c8 =>
  (slAt c8 (a0o + 0)).bind fun s9 =>
  (ixA s9 a2_1 3).bind fun o10 =>
  (rdB H s9.b).bind fun c11 =>
  (slAt c11 o10).bind fun s12 =>
  (slAt c11 (o10 + 1)).bind fun s13 =>
  (slAt c11 (o10 + 1 + 1)).bind fun s14 =>
  (C (.fn F.sl08Join) [.agg [.sl s5, .sl s6, .sl s7], .agg [.sl s12, .sl s13, .sl s14]] H).bind fun r15 =>
  (lenP r15.vs 3).bind fun _ =>
  (nthP r15.vs 0).bind fun p16 =>
  p16.sc?.bind fun c17 =>
  (slAt [c17] 0).bind fun s18 =>
  (nthP r15.vs 1).bind fun p19 =>
  p19.sc?.bind fun c20 =>
  (slAt [c20] 0).bind fun s21 =>
  (nthP r15.vs 2).bind fun p22 =>
  p22.sc?.bind fun c23 =>
  (boolAt [c23] 0).bind fun b24 =>
  (C (.fn F.sl17Keep) [.sc (.hp a0b a0o), .sc (.sl a1), .sc (.int .i64 a2_0), .sc (.int .i64 a2_1)] r15.H).bind fun r25 =>
  (oneP r25.vs).bind fun p26 =>
  p26.sc?.bind fun c27 =>
  (slAt [c27] 0).bind fun s28 =>
  (C (.fn F.sl08Keep) [.sc (.sl s18), .sc (.sl s21), .sc (.sl s28)] r25.H).bind fun r29 =>
  (oneP r29.vs).bind fun p30 =>
  p30.agg?.bind fun l31 =>
  cond (decide (l31.length = 3))
  ((slAt l31 0).bind fun s32 =>
   (slAt l31 1).bind fun s33 =>
   (slAt l31 2).bind fun s34 =>
   (rdB r29.H a0b).bind fun c35 =>
   (slAt c35 (a0o + 1)).bind fun s36 =>
   (ixA s36 a2_0 1).bind fun o37 =>
   (putR r29.H s36.b o37 [.bool true]).bind fun H38 =>
   (rdB H38 a0b).bind fun c39 =>
   (slAt c39 (a0o + 1)).bind fun s40 =>
   (ixA s40 a2_1 1).bind fun o41 =>
   (putR H38 s40.b o41 [.bool true]).bind fun H42 =>
   (rdB ((reserve H42 1).set (H42.length + 0) deadB) a0b).bind fun c43 =>
   (slAt c43 (a0o + 0)).bind fun s44 =>
   (newAt (reserve H42 1) (H42.length + 0) 3 [.sl s32, .sl s33, .sl s34]).bind fun h45 =>
   (rng h45.2 h45.1 0 (1 * 3)).bind fun l46 =>
   (appB h45.2 3 72 s44 l46 1).bind fun m47 =>
   (putR m47.2 a0b (a0o + 0) [.sl m47.1]).bind fun H48 =>
   (rdB H48 a0b).bind fun c49 =>
   (slAt c49 (a0o + 1)).bind fun s50 =>
   (newB H48 1 [.bool false]).bind fun h51 =>
   (rng h51.2 h51.1 0 (1 * 1)).bind fun l52 =>
   (appB h51.2 1 1 s50 l52 1).bind fun m53 =>
   (putR m53.2 a0b (a0o + 1) [.sl m53.1]).bind fun H54 =>
   (C (.fn F.sl05Product) [.sc (.sl s21), .sc (.int .i64 1000000000)] H54).bind fun r55 =>
   (oneP r55.vs).bind fun p56 =>
   p56.sc?.bind fun c57 =>
   (intAt .i64 [c57] 0).bind fun n58 =>
   some ⟨1, [.sc (.int .i64 (if n58 < 1000000000 then n58 else 1000000000))], r55.H⟩)
  (none) := by kernel_rfl
/- loop.example/g03211/impl.cappedProduct -/
theorem e_icappedProduct_0 (C : Oracle) (x1 x5 : Int) (x8 : Sl) (x9 x10 : Int) (H : AH) : (procM P T C (.loop F.icappedProduct 0) [.sc (.int .i64 x1), .sc (.int .i64 x5), .sc (.sl x8), .sc (.int .i64 x9), .sc (.int .i64 x10)] H).run =
  cond (decide (x10 < x9))
  ((ixA x8 x10 1).bind fun o1 =>
   (rdB H x8.b).bind fun c2 =>
   (intAt .i64 c2 o1).bind fun n3 =>
   C (.loop F.icappedProduct 0) [.sc (.int .i64 x1), .sc (.int .i64 (if x1 < IntKind.wrap .i64 (x5 * n3) then x1 else IntKind.wrap .i64 (x5 * n3))), .sc (.sl x8), .sc (.int .i64 x9), .sc (.int .i64 (IntKind.wrap .i64 (x10 + 1)))] H)
  (some ⟨2, [.sc (.int .i64 x5)], H⟩) := by kernel_rfl
theorem e_icappedProduct (C : Oracle) (a0 : Sl) (a1 : Int) (H : AH) : (procM P T C (.fn F.icappedProduct) [.sc (.sl a0), .sc (.int .i64 a1)] H).run =
  (C (.loop F.icappedProduct 0) [.sc (.int .i64 a1), .sc (.int .i64 1), .sc (.sl a0), .sc (.int .i64 (a0.n : Int)), .sc (.int .i64 0)] H).bind fun r4 =>
  cond (Nat.beq r4.e 2)
  ((nthP r4.vs 0).bind fun p5 =>
   p5.sc?.bind fun c6 =>
   (intAt .i64 [c6] 0).bind fun n7 =>
   some ⟨1, [.sc (.int .i64 n7)], r4.H⟩)
  (none) := by kernel_rfl
/- (*loop.example/g03211/impl.orderState).place -/
theorem e_x__impl_orderState__place_0 (C : Oracle) (x1 : Int) (x10 : Sl) (x11 x12 : Int) (H : AH) : (procM P T C (.loop F.x__impl_orderState__place 0) [.sc (.int .i64 x1), .sc (.sl x10), .sc (.int .i64 x11), .sc (.int .i64 x12)] H).run =
  cond (decide (x12 < x11))
  ((ixA x10 x12 2).bind fun o3 =>
   (rdB H x10.b).bind fun c4 =>
   (intAt .i64 c4 o3).bind fun n5 =>
   (slAt c4 (o3 + 1)).bind fun s6 =>
   cond (n5 == x1)
   (some ⟨1, [.sc (.int .i64 x12)], H⟩)
   (C (.loop F.x__impl_orderState__place 0) [.sc (.int .i64 x1), .sc (.sl x10), .sc (.int .i64 x11), .sc (.int .i64 (IntKind.wrap .i64 (x12 + 1)))] H))
  (some ⟨2, [], H⟩) := by kernel_rfl
theorem e_x__impl_orderState__place (C : Oracle) (a0b a0o : Nat) (a1 : Int) (H : AH) : (procM P T C (.fn F.x__impl_orderState__place) [.sc (.hp a0b a0o), .sc (.int .i64 a1)] H).run =
  (rdB H a0b).bind fun c1 =>
  (slAt c1 (a0o + 101)).bind fun s2 =>
  (C (.loop F.x__impl_orderState__place 0) [.sc (.int .i64 a1), .sc (.sl s2), .sc (.int .i64 (s2.n : Int)), .sc (.int .i64 0)] H).bind fun r7 =>
  cond (Nat.beq r7.e 1)
  ((nthP r7.vs 0).bind fun p8 =>
   p8.sc?.bind fun c9 =>
   (intAt .i64 [c9] 0).bind fun n10 =>
   some ⟨1, [.sc (.int .i64 n10)], r7.H⟩)
  (cond (Nat.beq r7.e 2)
   (some ⟨1, [.sc (.int .i64 (-1))], r7.H⟩)
   (none)) := by kernel_rfl
/- (*loop.example/g03211/impl.orderState).contract -/
theorem e_x__impl_orderState__contract_0 (C : Oracle) (x1 x2 : Int) (x9 x41 : Sl) (x42 x43 : Int) (H : AH) : (procM P T C (.loop F.x__impl_orderState__contract 0) [.sc (.int .i64 x1), .sc (.int .i64 x2), .sc (.sl x9), .sc (.sl x41), .sc (.int .i64 x42), .sc (.int .i64 x43)] H).run =
  cond (decide (x43 < x42))
  ((ixA x41 x43 2).bind fun o19 =>
   (rdB H x41.b).bind fun c20 =>
   (intAt .i64 c20 o19).bind fun n21 =>
   (slAt c20 (o19 + 1)).bind fun s22 =>
   ((cond (x43 != x1)
   (some ⟨0, [.sc (.bool (x43 != x2))], H⟩)
   (some ⟨0, [.sc (.bool false)], H⟩) : Option Out)).bind fun r23 =>
   cond (Nat.beq r23.e 0)
   ((nthP r23.vs 0).bind fun p24 =>
    p24.sc?.bind fun c25 =>
    (boolAt [c25] 0).bind fun b26 =>
    cond b26
    ((newB r23.H 2 [.int .i64 n21, .sl s22]).bind fun h27 =>
     (rng h27.2 h27.1 0 (1 * 2)).bind fun l28 =>
     (appB h27.2 2 32 x9 l28 1).bind fun m29 =>
     C (.loop F.x__impl_orderState__contract 0) [.sc (.int .i64 x1), .sc (.int .i64 x2), .sc (.sl m29.1), .sc (.sl x41), .sc (.int .i64 x42), .sc (.int .i64 (IntKind.wrap .i64 (x43 + 1)))] m29.2)
    (C (.loop F.x__impl_orderState__contract 0) [.sc (.int .i64 x1), .sc (.int .i64 x2), .sc (.sl x9), .sc (.sl x41), .sc (.int .i64 x42), .sc (.int .i64 (IntKind.wrap .i64 (x43 + 1)))] r23.H))
   (none))
  (some ⟨2, [.sc (.sl x9)], H⟩) := by kernel_rfl
theorem e_x__impl_orderState__contract (C : Oracle) (a0b a0o : Nat) (a1 a2 : Int) (H : AH) : (procM P T C (.fn F.x__impl_orderState__contract) [.sc (.hp a0b a0o), .sc (.int .i64 a1), .sc (.int .i64 a2)] H).run =
  (rdB H a0b).bind fun c1 =>
  (slAt c1 (a0o + 101)).bind fun s2 =>
  (ixA s2 a1 2).bind fun o3 =>
  (rdB H s2.b).bind fun c4 =>
  (intAt .i64 c4 (o3 + 0)).bind fun n5 =>
  (rdB H a0b).bind fun c6 =>
  (slAt c6 (a0o + 101)).bind fun s7 =>
  (ixA s7 a2 2).bind fun o8 =>
  (rdB H s7.b).bind fun c9 =>
  (intAt .i64 c9 (o8 + 0)).bind fun n10 =>
  cond (decide (a0b < H.length))
  ((rdB H a0b).bind fun c11 =>
   (intAt .i64 c11 (a0o + 102)).bind fun n12 =>
   (C (.fn F.x__impl_orderState__resultLabels) [.sc (.hp a0b a0o), .sc (.int .i64 a1), .sc (.int .i64 a2)] H).bind fun r13 =>
   (oneP r13.vs).bind fun p14 =>
   p14.sc?.bind fun c15 =>
   (slAt [c15] 0).bind fun s16 =>
   cond (decide (r13.H.take (H.length) = H.take (H.length)))
   ((rdB r13.H a0b).bind fun c17 =>
    (slAt c17 (a0o + 101)).bind fun s18 =>
    (C (.loop F.x__impl_orderState__contract 0) [.sc (.int .i64 a1), .sc (.int .i64 a2), .sc (.sl ⟨0, 0, 0, 0, true⟩), .sc (.sl s18), .sc (.int .i64 (s18.n : Int)), .sc (.int .i64 0)] r13.H).bind fun r30 =>
    cond (Nat.beq r30.e 2)
    ((nthP r30.vs 0).bind fun p31 =>
     p31.sc?.bind fun c32 =>
     (slAt [c32] 0).bind fun s33 =>
     (newB r30.H 2 [.int .i64 n12, .sl s16]).bind fun h34 =>
     (rng h34.2 h34.1 0 (1 * 2)).bind fun l35 =>
     (appB h34.2 2 32 s33 l35 1).bind fun m36 =>
     (putR m36.2 a0b (a0o + 101) [.sl m36.1]).bind fun H37 =>
     (rdB H37 a0b).bind fun c38 =>
     (intAt .i64 c38 (a0o + 102)).bind fun n39 =>
     (putR H37 a0b (a0o + 102) [.int .i64 (IntKind.wrap .i64 (n39 + 1))]).bind fun H40 =>
     some ⟨1, [.agg [.int .i64 n5, .int .i64 n10]], H40⟩)
    (none))
   (none))
  (none) := by kernel_rfl
/- loop.example/g03211/spec.RingOk -/
theorem e_sRingOk (C : Oracle) (a0_0 a0_1 a0_2 : Int) (H : AH) : (procM P T C (.fn F.sRingOk) [.agg [.int .i64 a0_0, .int .i64 a0_1, .int .i64 a0_2]] H).run =
  cond (a0_0 == 1)
  (cond (a0_1 == 0)
   (some ⟨1, [.sc (.bool (a0_2 == 0))], H⟩)
   (some ⟨1, [.sc (.bool false)], H⟩))
  (cond (a0_0 == 2)
   ((C (.fn F.sIsPrime) [.sc (.int .i64 a0_1)] H).bind fun r1 =>
    (oneP r1.vs).bind fun p2 =>
    p2.sc?.bind fun c3 =>
    (boolAt [c3] 0).bind fun b4 =>
    cond b4
    (some ⟨1, [.sc (.bool (a0_2 == 0))], r1.H⟩)
    (some ⟨1, [.sc (.bool false)], r1.H⟩))
   (((cond (a0_0 == 3)
   (some ⟨0, [.sc (.bool (a0_0 == 3))], H⟩)
   (cond (a0_0 == 4)
    (some ⟨0, [.sc (.bool (a0_0 == 4))], H⟩)
    (some ⟨0, [.sc (.bool (a0_0 == 5))], H⟩)) : Option Out)).bind fun r5 =>
    cond (Nat.beq r5.e 0)
    ((nthP r5.vs 0).bind fun p6 =>
     p6.sc?.bind fun c7 =>
     (boolAt [c7] 0).bind fun b8 =>
     cond b8
     ((C (.fn F.sl01In) [.sc (.int .i64 a0_1), .sc (.int .i64 1), .sc (.int .i64 1000000)] r5.H).bind fun r9 =>
      (oneP r9.vs).bind fun p10 =>
      p10.sc?.bind fun c11 =>
      (boolAt [c11] 0).bind fun b12 =>
      cond b12
      (some ⟨1, [.sc (.bool (a0_2 == 0))], r9.H⟩)
      (some ⟨1, [.sc (.bool false)], r9.H⟩))
     (cond (a0_0 == 6)
      (cond (a0_1 == 0)
       ((C (.fn F.sl01In) [.sc (.int .i64 a0_2), .sc (.int .i64 1), .sc (.int .i64 20)] r5.H).bind fun r13 =>
        (oneP r13.vs).bind fun p14 =>
        p14.sc?.bind fun c15 =>
        (boolAt [c15] 0).bind fun b16 =>
        some ⟨1, [.sc (.bool b16)], r13.H⟩)
       (some ⟨1, [.sc (.bool false)], r5.H⟩))
      (cond (a0_0 == 7)
       ((C (.fn F.sIsPrime) [.sc (.int .i64 a0_1)] r5.H).bind fun r17 =>
        (oneP r17.vs).bind fun p18 =>
        p18.sc?.bind fun c19 =>
        (boolAt [c19] 0).bind fun b20 =>
        cond b20
        ((C (.fn F.sl01In) [.sc (.int .i64 a0_2), .sc (.int .i64 1), .sc (.int .i64 6)] r17.H).bind fun r21 =>
         (oneP r21.vs).bind fun p22 =>
         p22.sc?.bind fun c23 =>
         (boolAt [c23] 0).bind fun b24 =>
         some ⟨1, [.sc (.bool b24)], r21.H⟩)
        (some ⟨1, [.sc (.bool false)], r17.H⟩))
       (cond (a0_0 == 8)
        ((C (.fn F.sIsPrime) [.sc (.int .i64 a0_1)] r5.H).bind fun r25 =>
         (oneP r25.vs).bind fun p26 =>
         p26.sc?.bind fun c27 =>
         (boolAt [c27] 0).bind fun b28 =>
         cond b28
         (cond (decide (a0_1 > 2))
          (some ⟨1, [.sc (.bool (a0_2 == 0))], r25.H⟩)
          (some ⟨1, [.sc (.bool false)], r25.H⟩))
         (some ⟨1, [.sc (.bool false)], r25.H⟩))
        (some ⟨1, [.sc (.bool false)], r5.H⟩)))))
    (none))) := by kernel_rfl
/- loop.example/g03211/spec.TensorOk -/
theorem e_sTensorOk_0 (C : Oracle) (x28 : Sl) (x29 x30 y2_0 y2_1 y2_2 : Int) (H : AH) : (procM P T C (.loop F.sTensorOk 0) [.sc (.sl x28), .sc (.int .i64 x29), .sc (.int .i64 x30), .agg [.int .i64 y2_0, .int .i64 y2_1, .int .i64 y2_2]] H).run =
  cond (decide (x30 < x29))
  ((ixA x28 x30 1).bind fun o13 =>
   (rdB H x28.b).bind fun c14 =>
   (intAt .i64 c14 o13).bind fun n15 =>
   (C (.fn F.sl02Top) [.agg [.int .i64 y2_0, .int .i64 y2_1, .int .i64 y2_2]] H).bind fun r16 =>
   (oneP r16.vs).bind fun p17 =>
   p17.sc?.bind fun c18 =>
   (intAt .i64 [c18] 0).bind fun n19 =>
   (C (.fn F.sl01In) [.sc (.int .i64 n15), .sc (.int .i64 0), .sc (.int .i64 n19)] r16.H).bind fun r20 =>
   (oneP r20.vs).bind fun p21 =>
   p21.sc?.bind fun c22 =>
   (boolAt [c22] 0).bind fun b23 =>
   cond (!b23)
   (some ⟨1, [.sc (.bool false)], r20.H⟩)
   (C (.loop F.sTensorOk 0) [.sc (.sl x28), .sc (.int .i64 x29), .sc (.int .i64 (IntKind.wrap .i64 (x30 + 1))), .agg [.int .i64 y2_0, .int .i64 y2_1, .int .i64 y2_2]] r20.H))
  (some ⟨2, [], H⟩) := by kernel_rfl
theorem e_sTensorOk (C : Oracle) (a0_0 a0_1 a0_2 : Int) (a1_0 a1_1 a1_2 : Sl) (H : AH) : (procM P T C (.fn F.sTensorOk) [.agg [.int .i64 a0_0, .int .i64 a0_1, .int .i64 a0_2], .agg [.sl a1_0, .sl a1_1, .sl a1_2]] H).run =
  (C (.fn F.sTensorSize) [.agg [.sl a1_0, .sl a1_1, .sl a1_2]] H).bind fun r1 =>
  (oneP r1.vs).bind fun p2 =>
  p2.sc?.bind fun c3 =>
  (intAt .i64 [c3] 0).bind fun n4 =>
  (C (.fn F.sRingOk) [.agg [.int .i64 a0_0, .int .i64 a0_1, .int .i64 a0_2]] r1.H).bind fun r5 =>
  (oneP r5.vs).bind fun p6 =>
  p6.sc?.bind fun c7 =>
  (boolAt [c7] 0).bind fun b8 =>
  cond (!b8)
  (some ⟨1, [.sc (.bool false)], r5.H⟩)
  (cond (decide (n4 < 0))
   (some ⟨1, [.sc (.bool false)], r5.H⟩)
   ((C (.fn F.sl02Width) [.agg [.int .i64 a0_0, .int .i64 a0_1, .int .i64 a0_2]] r5.H).bind fun r9 =>
    (oneP r9.vs).bind fun p10 =>
    p10.sc?.bind fun c11 =>
    (intAt .i64 [c11] 0).bind fun n12 =>
    cond ((a1_2.n : Int) != (IntKind.wrap .i64 (n4 * n12)))
    (some ⟨1, [.sc (.bool false)], r9.H⟩)
    ((C (.loop F.sTensorOk 0) [.sc (.sl a1_2), .sc (.int .i64 (a1_2.n : Int)), .sc (.int .i64 0), .agg [.int .i64 a0_0, .int .i64 a0_1, .int .i64 a0_2]] r9.H).bind fun r24 =>
     cond (Nat.beq r24.e 1)
     ((nthP r24.vs 0).bind fun p25 =>
      p25.sc?.bind fun c26 =>
      (boolAt [c26] 0).bind fun b27 =>
      some ⟨1, [.sc (.bool b27)], r24.H⟩)
     (cond (Nat.beq r24.e 2)
      (some ⟨1, [.sc (.bool true)], r24.H⟩)
      (none))))) := by kernel_rfl
end Go.Abs
