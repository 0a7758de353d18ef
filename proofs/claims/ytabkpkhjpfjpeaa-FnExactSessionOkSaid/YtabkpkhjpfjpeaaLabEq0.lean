/- Part of the proof of FnExactSessionOk: that for every input the law answers true and leaves what it reads as it was. Conditions: none beyond the given statement. -/
import Derived.Test.YtabkpkhjpfjpeaaLabTab
import Derived.KernelRfl
set_option linter.all false
/- The equations of the functions: what the abstract interpreter makes of their code. -/
namespace Go.Abs
set_option maxRecDepth 100000
set_option linter.unusedVariables false
/- loop.example/g03211/laws.FnExactFormulaNetwork -/
theorem e_wFnExactFormulaNetwork (C : Oracle) (a0_0 a0_1 a0_2 a1_0 : Int) (a1_1 : Sl) (H : AH) : (procM P T C (.fn F.wFnExactFormulaNetwork) [.agg [.int .i64 a0_0, .int .i64 a0_1, .int .i64 a0_2], .agg [.int .i64 a1_0, .sl a1_1]] H).run =
  (C (.fn F.wszCnf) [.agg [.int .i64 a1_0, .sl a1_1], .sc (.int .i64 1048576)] H).bind fun r1 =>
  (oneP r1.vs).bind fun p2 =>
  p2.sc?.bind fun c3 =>
  (intAt .i64 [c3] 0).bind fun n4 =>
  cond (decide (n4 < 0))
  (some ⟨1, [.sc (.bool true)], r1.H⟩)
  ((C (.fn F.wtoRing) [.agg [.int .i64 a0_0, .int .i64 a0_1, .int .i64 a0_2]] r1.H).bind fun r5 =>
   (oneP r5.vs).bind fun p6 =>
   p6.agg?.bind fun l7 =>
   cond (decide (l7.length = 3))
   ((intAt .i64 l7 0).bind fun n8 =>
    (intAt .i64 l7 1).bind fun n9 =>
    (intAt .i64 l7 2).bind fun n10 =>
    (C (.fn F.wtoCnf) [.agg [.int .i64 a1_0, .sl a1_1]] r5.H).bind fun r11 =>
    (oneP r11.vs).bind fun p12 =>
    p12.agg?.bind fun l13 =>
    cond (decide (l13.length = 2))
    ((intAt .i64 l13 0).bind fun n14 =>
     (slAt l13 1).bind fun s15 =>
     (C (.fn F.sFormulaNetwork) [.agg [.int .i64 n8, .int .i64 n9, .int .i64 n10], .agg [.int .i64 n14, .sl s15]] r11.H).bind fun r16 =>
     (lenP r16.vs 2).bind fun _ =>
     (nthP r16.vs 0).bind fun p17 =>
     p17.agg?.bind fun l18 =>
     cond (decide (l18.length = 5))
     ((intAt .i64 l18 0).bind fun n19 =>
      (intAt .i64 l18 1).bind fun n20 =>
      (intAt .i64 l18 2).bind fun n21 =>
      (slAt l18 3).bind fun s22 =>
      (slAt l18 4).bind fun s23 =>
      (nthP r16.vs 1).bind fun p24 =>
      p24.sc?.bind fun c25 =>
      (boolAt [c25] 0).bind fun b26 =>
      (C (.fn F.wtoCnf) [.agg [.int .i64 a1_0, .sl a1_1]] r16.H).bind fun r27 =>
      (oneP r27.vs).bind fun p28 =>
      p28.agg?.bind fun l29 =>
      cond (decide (l29.length = 2))
      ((intAt .i64 l29 0).bind fun n30 =>
       (slAt l29 1).bind fun s31 =>
       (C (.fn F.wtoRing) [.agg [.int .i64 a0_0, .int .i64 a0_1, .int .i64 a0_2]] r27.H).bind fun r32 =>
       (oneP r32.vs).bind fun p33 =>
       p33.agg?.bind fun l34 =>
       cond (decide (l34.length = 3))
       ((intAt .i64 l34 0).bind fun n35 =>
        (intAt .i64 l34 1).bind fun n36 =>
        (intAt .i64 l34 2).bind fun n37 =>
        (C (.fn F.iFormulaNetwork) [.agg [.int .i64 n35, .int .i64 n36, .int .i64 n37], .agg [.int .i64 n30, .sl s31]] r32.H).bind fun r38 =>
        (lenP r38.vs 2).bind fun _ =>
        (nthP r38.vs 0).bind fun p39 =>
        p39.agg?.bind fun l40 =>
        cond (decide (l40.length = 5))
        ((intAt .i64 l40 0).bind fun n41 =>
         (intAt .i64 l40 1).bind fun n42 =>
         (intAt .i64 l40 2).bind fun n43 =>
         (slAt l40 3).bind fun s44 =>
         (slAt l40 4).bind fun s45 =>
         (nthP r38.vs 1).bind fun p46 =>
         p46.sc?.bind fun c47 =>
         (boolAt [c47] 0).bind fun b48 =>
         (C (.fn F.weqNetwork) [.agg [.int .i64 n41, .int .i64 n42, .int .i64 n43, .sl s44, .sl s45], .agg [.int .i64 n19, .int .i64 n20, .int .i64 n21, .sl s22, .sl s23]] r38.H).bind fun r49 =>
         (oneP r49.vs).bind fun p50 =>
         p50.sc?.bind fun c51 =>
         (boolAt [c51] 0).bind fun b52 =>
         cond (!b52)
         (some ⟨1, [.sc (.bool false)], r49.H⟩)
         (cond (b48 != b26)
          (some ⟨1, [.sc (.bool false)], r49.H⟩)
          ((C (.fn F.wtoCnf) [.agg [.int .i64 a1_0, .sl a1_1]] r49.H).bind fun r53 =>
           (oneP r53.vs).bind fun p54 =>
           p54.agg?.bind fun l55 =>
           cond (decide (l55.length = 2))
           ((intAt .i64 l55 0).bind fun n56 =>
            (slAt l55 1).bind fun s57 =>
            (C (.fn F.weqCnf) [.agg [.int .i64 n30, .sl s31], .agg [.int .i64 n56, .sl s57]] r53.H).bind fun r58 =>
            (oneP r58.vs).bind fun p59 =>
            p59.sc?.bind fun c60 =>
            (boolAt [c60] 0).bind fun b61 =>
            cond (!b61)
            (some ⟨1, [.sc (.bool false)], r58.H⟩)
            ((C (.fn F.wmarkCnf) [.agg [.int .i64 n30, .sl s31], .sc (.int .i64 1)] r58.H).bind fun r62 =>
             (oneP r62.vs).bind fun p63 =>
             p63.sc?.bind fun c64 =>
             (intAt .i64 [c64] 0).bind fun n65 =>
             cond (decide (n65 < 0))
             (some ⟨1, [.sc (.bool false)], r62.H⟩)
             ((C (.fn F.weqNetwork) [.agg [.int .i64 n41, .int .i64 n42, .int .i64 n43, .sl s44, .sl s45], .agg [.int .i64 n19, .int .i64 n20, .int .i64 n21, .sl s22, .sl s23]] r62.H).bind fun r66 =>
              (oneP r66.vs).bind fun p67 =>
              p67.sc?.bind fun c68 =>
              (boolAt [c68] 0).bind fun b69 =>
              cond (!b69)
              (some ⟨1, [.sc (.bool false)], r66.H⟩)
              (cond (b48 != b26)
               (some ⟨1, [.sc (.bool false)], r66.H⟩)
               ((C (.fn F.wmarkNetwork) [.agg [.int .i64 n41, .int .i64 n42, .int .i64 n43, .sl s44, .sl s45], .sc (.int .i64 1)] r66.H).bind fun r70 =>
                (oneP r70.vs).bind fun p71 =>
                p71.sc?.bind fun c72 =>
                (intAt .i64 [c72] 0).bind fun n73 =>
                (C (.fn F.wheldNetwork) [.agg [.int .i64 n41, .int .i64 n42, .int .i64 n43, .sl s44, .sl s45], .sc (.int .i64 1)] r70.H).bind fun r74 =>
                (oneP r74.vs).bind fun p75 =>
                p75.sc?.bind fun c76 =>
                (intAt .i64 [c76] 0).bind fun n77 =>
                cond (decide (n77 < 0))
                (some ⟨1, [.sc (.bool false)], r74.H⟩)
                (cond (n77 != n73)
                 (some ⟨1, [.sc (.bool false)], r74.H⟩)
                 ((C (.fn F.wtoRing) [.agg [.int .i64 a0_0, .int .i64 a0_1, .int .i64 a0_2]] r74.H).bind fun r78 =>
                  (oneP r78.vs).bind fun p79 =>
                  p79.agg?.bind fun l80 =>
                  cond (decide (l80.length = 3))
                  ((intAt .i64 l80 0).bind fun n81 =>
                   (intAt .i64 l80 1).bind fun n82 =>
                   (intAt .i64 l80 2).bind fun n83 =>
                   (C (.fn F.wtoCnf) [.agg [.int .i64 a1_0, .sl a1_1]] r78.H).bind fun r84 =>
                   (oneP r84.vs).bind fun p85 =>
                   p85.agg?.bind fun l86 =>
                   cond (decide (l86.length = 2))
                   ((intAt .i64 l86 0).bind fun n87 =>
                    (slAt l86 1).bind fun s88 =>
                    (C (.fn F.iFormulaNetwork) [.agg [.int .i64 n81, .int .i64 n82, .int .i64 n83], .agg [.int .i64 n87, .sl s88]] r84.H).bind fun r89 =>
                    (lenP r89.vs 2).bind fun _ =>
                    (nthP r89.vs 0).bind fun p90 =>
                    p90.agg?.bind fun l91 =>
                    cond (decide (l91.length = 5))
                    ((intAt .i64 l91 0).bind fun n92 =>
                     (intAt .i64 l91 1).bind fun n93 =>
                     (intAt .i64 l91 2).bind fun n94 =>
                     (slAt l91 3).bind fun s95 =>
                     (slAt l91 4).bind fun s96 =>
                     (nthP r89.vs 1).bind fun p97 =>
                     p97.sc?.bind fun c98 =>
                     (boolAt [c98] 0).bind fun b99 =>
                     (C (.fn F.weqNetwork) [.agg [.int .i64 n92, .int .i64 n93, .int .i64 n94, .sl s95, .sl s96], .agg [.int .i64 n19, .int .i64 n20, .int .i64 n21, .sl s22, .sl s23]] r89.H).bind fun r100 =>
                     (oneP r100.vs).bind fun p101 =>
                     p101.sc?.bind fun c102 =>
                     (boolAt [c102] 0).bind fun b103 =>
                     cond (!b103)
                     (some ⟨1, [.sc (.bool false)], r100.H⟩)
                     (cond (b99 != b26)
                      (some ⟨1, [.sc (.bool false)], r100.H⟩)
                      ((C (.fn F.wheldNetwork) [.agg [.int .i64 n41, .int .i64 n42, .int .i64 n43, .sl s44, .sl s45], .sc (.int .i64 1)] r100.H).bind fun r104 =>
                       (oneP r104.vs).bind fun p105 =>
                       p105.sc?.bind fun c106 =>
                       (intAt .i64 [c106] 0).bind fun n107 =>
                       cond (decide (n107 < 0))
                       (some ⟨1, [.sc (.bool false)], r104.H⟩)
                       (cond (n107 != n73)
                        (some ⟨1, [.sc (.bool false)], r104.H⟩)
                        (some ⟨1, [.sc (.bool true)], r104.H⟩)))))
                    (none))
                   (none))
                  (none))))))))
           (none))))
        (none))
       (none))
      (none))
     (none))
    (none))
   (none)) := by kernel_rfl
/- loop.example/g03211/laws.FnExactSessionOk -/
theorem e_wFnExactSessionOk (C : Oracle) (a0_0 a0_1 a0_2 : Int) (a0_3 a0_4 a0_5 a0_6 a0_7 : Sl) (a0_8 : Int) (a0_9 a0_10 a0_11 : Sl) (H : AH) : (procM P T C (.fn F.wFnExactSessionOk) [.agg [.int .i64 a0_0, .int .i64 a0_1, .int .i64 a0_2, .sl a0_3, .sl a0_4, .sl a0_5, .sl a0_6, .sl a0_7, .int .i64 a0_8, .sl a0_9, .sl a0_10, .sl a0_11]] H).run =
  (C (.fn F.wszSession) [.agg [.int .i64 a0_0, .int .i64 a0_1, .int .i64 a0_2, .sl a0_3, .sl a0_4, .sl a0_5, .sl a0_6, .sl a0_7, .int .i64 a0_8, .sl a0_9, .sl a0_10, .sl a0_11], .sc (.int .i64 1048576)] H).bind fun r1 =>
  (oneP r1.vs).bind fun p2 =>
  p2.sc?.bind fun c3 =>
  (intAt .i64 [c3] 0).bind fun n4 =>
  cond (decide (n4 < 0))
  (some ⟨1, [.sc (.bool true)], r1.H⟩)
  ((C (.fn F.wtoSession) [.agg [.int .i64 a0_0, .int .i64 a0_1, .int .i64 a0_2, .sl a0_3, .sl a0_4, .sl a0_5, .sl a0_6, .sl a0_7, .int .i64 a0_8, .sl a0_9, .sl a0_10, .sl a0_11]] r1.H).bind fun r5 =>
   (oneP r5.vs).bind fun p6 =>
   p6.agg?.bind fun l7 =>
   cond (decide (l7.length = 12))
   ((intAt .i64 l7 0).bind fun n8 =>
    (intAt .i64 l7 1).bind fun n9 =>
    (intAt .i64 l7 2).bind fun n10 =>
    (slAt l7 3).bind fun s11 =>
    (slAt l7 4).bind fun s12 =>
    (slAt l7 5).bind fun s13 =>
    (slAt l7 6).bind fun s14 =>
    (slAt l7 7).bind fun s15 =>
    (intAt .i64 l7 8).bind fun n16 =>
    (slAt l7 9).bind fun s17 =>
    (slAt l7 10).bind fun s18 =>
    (slAt l7 11).bind fun s19 =>
    (C (.fn F.sSessionOk) [.agg [.int .i64 n8, .int .i64 n9, .int .i64 n10, .sl s11, .sl s12, .sl s13, .sl s14, .sl s15, .int .i64 n16, .sl s17, .sl s18, .sl s19]] r5.H).bind fun r20 =>
    (oneP r20.vs).bind fun p21 =>
    p21.sc?.bind fun c22 =>
    (boolAt [c22] 0).bind fun b23 =>
    (C (.fn F.wtoSession) [.agg [.int .i64 a0_0, .int .i64 a0_1, .int .i64 a0_2, .sl a0_3, .sl a0_4, .sl a0_5, .sl a0_6, .sl a0_7, .int .i64 a0_8, .sl a0_9, .sl a0_10, .sl a0_11]] r20.H).bind fun r24 =>
    (oneP r24.vs).bind fun p25 =>
    p25.agg?.bind fun l26 =>
    cond (decide (l26.length = 12))
    ((intAt .i64 l26 0).bind fun n27 =>
     (intAt .i64 l26 1).bind fun n28 =>
     (intAt .i64 l26 2).bind fun n29 =>
     (slAt l26 3).bind fun s30 =>
     (slAt l26 4).bind fun s31 =>
     (slAt l26 5).bind fun s32 =>
     (slAt l26 6).bind fun s33 =>
     (slAt l26 7).bind fun s34 =>
     (intAt .i64 l26 8).bind fun n35 =>
     (slAt l26 9).bind fun s36 =>
     (slAt l26 10).bind fun s37 =>
     (slAt l26 11).bind fun s38 =>
     (C (.fn F.iSessionOk) [.agg [.int .i64 n27, .int .i64 n28, .int .i64 n29, .sl s30, .sl s31, .sl s32, .sl s33, .sl s34, .int .i64 n35, .sl s36, .sl s37, .sl s38]] r24.H).bind fun r39 =>
     (oneP r39.vs).bind fun p40 =>
     p40.sc?.bind fun c41 =>
     (boolAt [c41] 0).bind fun b42 =>
     cond (b42 != b23)
     (some ⟨1, [.sc (.bool false)], r39.H⟩)
     ((C (.fn F.wtoSession) [.agg [.int .i64 a0_0, .int .i64 a0_1, .int .i64 a0_2, .sl a0_3, .sl a0_4, .sl a0_5, .sl a0_6, .sl a0_7, .int .i64 a0_8, .sl a0_9, .sl a0_10, .sl a0_11]] r39.H).bind fun r43 =>
      (oneP r43.vs).bind fun p44 =>
      p44.agg?.bind fun l45 =>
      cond (decide (l45.length = 12))
      ((intAt .i64 l45 0).bind fun n46 =>
       (intAt .i64 l45 1).bind fun n47 =>
       (intAt .i64 l45 2).bind fun n48 =>
       (slAt l45 3).bind fun s49 =>
       (slAt l45 4).bind fun s50 =>
       (slAt l45 5).bind fun s51 =>
       (slAt l45 6).bind fun s52 =>
       (slAt l45 7).bind fun s53 =>
       (intAt .i64 l45 8).bind fun n54 =>
       (slAt l45 9).bind fun s55 =>
       (slAt l45 10).bind fun s56 =>
       (slAt l45 11).bind fun s57 =>
       (C (.fn F.weqSession) [.agg [.int .i64 n27, .int .i64 n28, .int .i64 n29, .sl s30, .sl s31, .sl s32, .sl s33, .sl s34, .int .i64 n35, .sl s36, .sl s37, .sl s38], .agg [.int .i64 n46, .int .i64 n47, .int .i64 n48, .sl s49, .sl s50, .sl s51, .sl s52, .sl s53, .int .i64 n54, .sl s55, .sl s56, .sl s57]] r43.H).bind fun r58 =>
       (oneP r58.vs).bind fun p59 =>
       p59.sc?.bind fun c60 =>
       (boolAt [c60] 0).bind fun b61 =>
       cond (!b61)
       (some ⟨1, [.sc (.bool false)], r58.H⟩)
       (some ⟨1, [.sc (.bool true)], r58.H⟩))
      (none)))
    (none))
   (none)) := by kernel_rfl
/- loop.example/g03211/laws.FnExactCircuitNetwork -/
theorem e_wFnExactCircuitNetwork (C : Oracle) (a0_0 a0_1 : Int) (a0_2 : Sl) (a1 : Int) (H : AH) : (procM P T C (.fn F.wFnExactCircuitNetwork) [.agg [.int .i64 a0_0, .int .i64 a0_1, .sl a0_2], .sc (.int .i64 a1)] H).run =
  (C (.fn F.wszCircuit) [.agg [.int .i64 a0_0, .int .i64 a0_1, .sl a0_2], .sc (.int .i64 1048576)] H).bind fun r1 =>
  (oneP r1.vs).bind fun p2 =>
  p2.sc?.bind fun c3 =>
  (intAt .i64 [c3] 0).bind fun n4 =>
  cond (decide (n4 < 0))
  (some ⟨1, [.sc (.bool true)], r1.H⟩)
  ((C (.fn F.wtoCircuit) [.agg [.int .i64 a0_0, .int .i64 a0_1, .sl a0_2]] r1.H).bind fun r5 =>
   (oneP r5.vs).bind fun p6 =>
   p6.agg?.bind fun l7 =>
   cond (decide (l7.length = 3))
   ((intAt .i64 l7 0).bind fun n8 =>
    (intAt .i64 l7 1).bind fun n9 =>
    (slAt l7 2).bind fun s10 =>
    (C (.fn F.sCircuitNetwork) [.agg [.int .i64 n8, .int .i64 n9, .sl s10], .sc (.int .i64 a1)] r5.H).bind fun r11 =>
    (lenP r11.vs 2).bind fun _ =>
    (nthP r11.vs 0).bind fun p12 =>
    p12.agg?.bind fun l13 =>
    cond (decide (l13.length = 5))
    ((intAt .i64 l13 0).bind fun n14 =>
     (intAt .i64 l13 1).bind fun n15 =>
     (intAt .i64 l13 2).bind fun n16 =>
     (slAt l13 3).bind fun s17 =>
     (slAt l13 4).bind fun s18 =>
     (nthP r11.vs 1).bind fun p19 =>
     p19.sc?.bind fun c20 =>
     (boolAt [c20] 0).bind fun b21 =>
     (C (.fn F.wtoCircuit) [.agg [.int .i64 a0_0, .int .i64 a0_1, .sl a0_2]] r11.H).bind fun r22 =>
     (oneP r22.vs).bind fun p23 =>
     p23.agg?.bind fun l24 =>
     cond (decide (l24.length = 3))
     ((intAt .i64 l24 0).bind fun n25 =>
      (intAt .i64 l24 1).bind fun n26 =>
      (slAt l24 2).bind fun s27 =>
      (C (.fn F.iCircuitNetwork) [.agg [.int .i64 n25, .int .i64 n26, .sl s27], .sc (.int .i64 a1)] r22.H).bind fun r28 =>
      (lenP r28.vs 2).bind fun _ =>
      (nthP r28.vs 0).bind fun p29 =>
      p29.agg?.bind fun l30 =>
      cond (decide (l30.length = 5))
      ((intAt .i64 l30 0).bind fun n31 =>
       (intAt .i64 l30 1).bind fun n32 =>
       (intAt .i64 l30 2).bind fun n33 =>
       (slAt l30 3).bind fun s34 =>
       (slAt l30 4).bind fun s35 =>
       (nthP r28.vs 1).bind fun p36 =>
       p36.sc?.bind fun c37 =>
       (boolAt [c37] 0).bind fun b38 =>
       (C (.fn F.weqNetwork) [.agg [.int .i64 n31, .int .i64 n32, .int .i64 n33, .sl s34, .sl s35], .agg [.int .i64 n14, .int .i64 n15, .int .i64 n16, .sl s17, .sl s18]] r28.H).bind fun r39 =>
       (oneP r39.vs).bind fun p40 =>
       p40.sc?.bind fun c41 =>
       (boolAt [c41] 0).bind fun b42 =>
       cond (!b42)
       (some ⟨1, [.sc (.bool false)], r39.H⟩)
       (cond (b38 != b21)
        (some ⟨1, [.sc (.bool false)], r39.H⟩)
        ((C (.fn F.wtoCircuit) [.agg [.int .i64 a0_0, .int .i64 a0_1, .sl a0_2]] r39.H).bind fun r43 =>
         (oneP r43.vs).bind fun p44 =>
         p44.agg?.bind fun l45 =>
         cond (decide (l45.length = 3))
         ((intAt .i64 l45 0).bind fun n46 =>
          (intAt .i64 l45 1).bind fun n47 =>
          (slAt l45 2).bind fun s48 =>
          (C (.fn F.weqCircuit) [.agg [.int .i64 n25, .int .i64 n26, .sl s27], .agg [.int .i64 n46, .int .i64 n47, .sl s48]] r43.H).bind fun r49 =>
          (oneP r49.vs).bind fun p50 =>
          p50.sc?.bind fun c51 =>
          (boolAt [c51] 0).bind fun b52 =>
          cond (!b52)
          (some ⟨1, [.sc (.bool false)], r49.H⟩)
          ((C (.fn F.wmarkCircuit) [.agg [.int .i64 n25, .int .i64 n26, .sl s27], .sc (.int .i64 1)] r49.H).bind fun r53 =>
           (oneP r53.vs).bind fun p54 =>
           p54.sc?.bind fun c55 =>
           (intAt .i64 [c55] 0).bind fun n56 =>
           cond (decide (n56 < 0))
           (some ⟨1, [.sc (.bool false)], r53.H⟩)
           ((C (.fn F.weqNetwork) [.agg [.int .i64 n31, .int .i64 n32, .int .i64 n33, .sl s34, .sl s35], .agg [.int .i64 n14, .int .i64 n15, .int .i64 n16, .sl s17, .sl s18]] r53.H).bind fun r57 =>
            (oneP r57.vs).bind fun p58 =>
            p58.sc?.bind fun c59 =>
            (boolAt [c59] 0).bind fun b60 =>
            cond (!b60)
            (some ⟨1, [.sc (.bool false)], r57.H⟩)
            (cond (b38 != b21)
             (some ⟨1, [.sc (.bool false)], r57.H⟩)
             ((C (.fn F.wmarkNetwork) [.agg [.int .i64 n31, .int .i64 n32, .int .i64 n33, .sl s34, .sl s35], .sc (.int .i64 1)] r57.H).bind fun r61 =>
              (oneP r61.vs).bind fun p62 =>
              p62.sc?.bind fun c63 =>
              (intAt .i64 [c63] 0).bind fun n64 =>
              (C (.fn F.wheldNetwork) [.agg [.int .i64 n31, .int .i64 n32, .int .i64 n33, .sl s34, .sl s35], .sc (.int .i64 1)] r61.H).bind fun r65 =>
              (oneP r65.vs).bind fun p66 =>
              p66.sc?.bind fun c67 =>
              (intAt .i64 [c67] 0).bind fun n68 =>
              cond (decide (n68 < 0))
              (some ⟨1, [.sc (.bool false)], r65.H⟩)
              (cond (n68 != n64)
               (some ⟨1, [.sc (.bool false)], r65.H⟩)
               ((C (.fn F.wtoCircuit) [.agg [.int .i64 a0_0, .int .i64 a0_1, .sl a0_2]] r65.H).bind fun r69 =>
                (oneP r69.vs).bind fun p70 =>
                p70.agg?.bind fun l71 =>
                cond (decide (l71.length = 3))
                ((intAt .i64 l71 0).bind fun n72 =>
                 (intAt .i64 l71 1).bind fun n73 =>
                 (slAt l71 2).bind fun s74 =>
                 (C (.fn F.iCircuitNetwork) [.agg [.int .i64 n72, .int .i64 n73, .sl s74], .sc (.int .i64 a1)] r69.H).bind fun r75 =>
                 (lenP r75.vs 2).bind fun _ =>
                 (nthP r75.vs 0).bind fun p76 =>
                 p76.agg?.bind fun l77 =>
                 cond (decide (l77.length = 5))
                 ((intAt .i64 l77 0).bind fun n78 =>
                  (intAt .i64 l77 1).bind fun n79 =>
                  (intAt .i64 l77 2).bind fun n80 =>
                  (slAt l77 3).bind fun s81 =>
                  (slAt l77 4).bind fun s82 =>
                  (nthP r75.vs 1).bind fun p83 =>
                  p83.sc?.bind fun c84 =>
                  (boolAt [c84] 0).bind fun b85 =>
                  (C (.fn F.weqNetwork) [.agg [.int .i64 n78, .int .i64 n79, .int .i64 n80, .sl s81, .sl s82], .agg [.int .i64 n14, .int .i64 n15, .int .i64 n16, .sl s17, .sl s18]] r75.H).bind fun r86 =>
                  (oneP r86.vs).bind fun p87 =>
                  p87.sc?.bind fun c88 =>
                  (boolAt [c88] 0).bind fun b89 =>
                  cond (!b89)
                  (some ⟨1, [.sc (.bool false)], r86.H⟩)
                  (cond (b85 != b21)
                   (some ⟨1, [.sc (.bool false)], r86.H⟩)
                   ((C (.fn F.wheldNetwork) [.agg [.int .i64 n31, .int .i64 n32, .int .i64 n33, .sl s34, .sl s35], .sc (.int .i64 1)] r86.H).bind fun r90 =>
                    (oneP r90.vs).bind fun p91 =>
                    p91.sc?.bind fun c92 =>
                    (intAt .i64 [c92] 0).bind fun n93 =>
                    cond (decide (n93 < 0))
                    (some ⟨1, [.sc (.bool false)], r90.H⟩)
                    (cond (n93 != n64)
                     (some ⟨1, [.sc (.bool false)], r90.H⟩)
                     (some ⟨1, [.sc (.bool true)], r90.H⟩)))))
                 (none))
                (none))))))))
         (none))))
      (none))
     (none))
    (none))
   (none)) := by kernel_rfl
/- loop.example/g03211/laws.szTensor -/
theorem e_wszTensor (C : Oracle) (a0_0 a0_1 a0_2 : Sl) (a1 : Int) (H : AH) : (procM P T C (.fn F.wszTensor) [.agg [.sl a0_0, .sl a0_1, .sl a0_2], .sc (.int .i64 a1)] H).run =
  (C (.fn F.wszIntS) [.sc (.sl a0_0), .sc (.int .i64 a1)] H).bind fun r1 =>
  (oneP r1.vs).bind fun p2 =>
  p2.sc?.bind fun c3 =>
  (intAt .i64 [c3] 0).bind fun n4 =>
  cond (decide (n4 < 0))
  (some ⟨1, [.sc (.int .i64 (-1))], r1.H⟩)
  ((C (.fn F.wszIntS) [.sc (.sl a0_1), .sc (.int .i64 n4)] r1.H).bind fun r5 =>
   (oneP r5.vs).bind fun p6 =>
   p6.sc?.bind fun c7 =>
   (intAt .i64 [c7] 0).bind fun n8 =>
   cond (decide (n8 < 0))
   (some ⟨1, [.sc (.int .i64 (-1))], r5.H⟩)
   ((C (.fn F.wszIntS) [.sc (.sl a0_2), .sc (.int .i64 n8)] r5.H).bind fun r9 =>
    (oneP r9.vs).bind fun p10 =>
    p10.sc?.bind fun c11 =>
    (intAt .i64 [c11] 0).bind fun n12 =>
    cond (decide (n12 < 0))
    (some ⟨1, [.sc (.int .i64 (-1))], r9.H⟩)
    (some ⟨1, [.sc (.int .i64 n12)], r9.H⟩))) := by kernel_rfl
/- loop.example/g03211/laws.toTensor -/
theorem e_wtoTensor (C : Oracle) (a0_0 a0_1 a0_2 : Sl) (H : AH) : (procM P T C (.fn F.wtoTensor) [.agg [.sl a0_0, .sl a0_1, .sl a0_2]] H).run =
  (C (.fn F.wtoIntS) [.sc (.sl a0_0)] H).bind fun r1 =>
  (oneP r1.vs).bind fun p2 =>
  p2.sc?.bind fun c3 =>
  (slAt [c3] 0).bind fun s4 =>
  (C (.fn F.wtoIntS) [.sc (.sl a0_1)] r1.H).bind fun r5 =>
  (oneP r5.vs).bind fun p6 =>
  p6.sc?.bind fun c7 =>
  (slAt [c7] 0).bind fun s8 =>
  (C (.fn F.wtoIntS) [.sc (.sl a0_2)] r5.H).bind fun r9 =>
  (oneP r9.vs).bind fun p10 =>
  p10.sc?.bind fun c11 =>
  (slAt [c11] 0).bind fun s12 =>
  some ⟨1, [.agg [.sl s4, .sl s8, .sl s12]], r9.H⟩ := by kernel_rfl
/- loop.example/g03211/laws.eqTensor -/
theorem e_weqTensor (C : Oracle) (a0_0 a0_1 a0_2 a1_0 a1_1 a1_2 : Sl) (H : AH) : (procM P T C (.fn F.weqTensor) [.agg [.sl a0_0, .sl a0_1, .sl a0_2], .agg [.sl a1_0, .sl a1_1, .sl a1_2]] H).run =
  (C (.fn F.weqIntS) [.sc (.sl a0_0), .sc (.sl a1_0)] H).bind fun r1 =>
  (oneP r1.vs).bind fun p2 =>
  p2.sc?.bind fun c3 =>
  (boolAt [c3] 0).bind fun b4 =>
  cond (!b4)
  (some ⟨1, [.sc (.bool false)], r1.H⟩)
  ((C (.fn F.weqIntS) [.sc (.sl a0_1), .sc (.sl a1_1)] r1.H).bind fun r5 =>
   (oneP r5.vs).bind fun p6 =>
   p6.sc?.bind fun c7 =>
   (boolAt [c7] 0).bind fun b8 =>
   cond (!b8)
   (some ⟨1, [.sc (.bool false)], r5.H⟩)
   ((C (.fn F.weqIntS) [.sc (.sl a0_2), .sc (.sl a1_2)] r5.H).bind fun r9 =>
    (oneP r9.vs).bind fun p10 =>
    p10.sc?.bind fun c11 =>
    (boolAt [c11] 0).bind fun b12 =>
    cond (!b12)
    (some ⟨1, [.sc (.bool false)], r9.H⟩)
    (some ⟨1, [.sc (.bool true)], r9.H⟩))) := by kernel_rfl
/- loop.example/g03211/laws.szCnf -/
theorem e_wszCnf (C : Oracle) (a0_0 : Int) (a0_1 : Sl) (a1 : Int) (H : AH) : (procM P T C (.fn F.wszCnf) [.agg [.int .i64 a0_0, .sl a0_1], .sc (.int .i64 a1)] H).run =
  (C (.fn F.wszIntSS) [.sc (.sl a0_1), .sc (.int .i64 a1)] H).bind fun r1 =>
  (oneP r1.vs).bind fun p2 =>
  p2.sc?.bind fun c3 =>
  (intAt .i64 [c3] 0).bind fun n4 =>
  cond (decide (n4 < 0))
  (some ⟨1, [.sc (.int .i64 (-1))], r1.H⟩)
  (some ⟨1, [.sc (.int .i64 n4)], r1.H⟩) := by kernel_rfl
/- loop.example/g03211/spec.FormulaNetwork -/
theorem e_sFormulaNetwork_0 (C : Oracle) (x30 : Sl) (x31 x32 y2_0 y2_1 y2_2 y3_0 : Int) (y3_1 : Sl) (y6_0 y6_1 y6_2 : Int) (y6_3 y6_4 : Sl) (H : AH) : (procM P T C (.loop F.sFormulaNetwork 0) [.sc (.sl x30), .sc (.int .i64 x31), .sc (.int .i64 x32), .agg [.int .i64 y2_0, .int .i64 y2_1, .int .i64 y2_2], .agg [.int .i64 y3_0, .sl y3_1], .agg [.int .i64 y6_0, .int .i64 y6_1, .int .i64 y6_2, .sl y6_3, .sl y6_4]] H).run =
  cond (decide (x32 < x31))
  ((ixA x30 x32 1).bind fun o9 =>
   (rdB H x30.b).bind fun c10 =>
   (slAt c10 o9).bind fun s11 =>
   (newB H 1 []).bind fun h12 =>
   (newB h12.2 1 []).bind fun h13 =>
   (C (.loop F.sFormulaNetwork 1) [.sc (.sl s11), .sc (.sl ⟨h12.1, 0, 0, 0, true⟩), .sc (.sl ⟨h13.1, 0, 0, 0, true⟩), .sc (.int .i64 1), .agg [.int .i64 y3_0, .sl y3_1]] h13.2).bind fun r32 =>
   cond (Nat.beq r32.e 4)
   ((nthP r32.vs 0).bind fun p33 =>
    p33.sc?.bind fun c34 =>
    (slAt [c34] 0).bind fun s35 =>
    (nthP r32.vs 1).bind fun p36 =>
    p36.sc?.bind fun c37 =>
    (slAt [c37] 0).bind fun s38 =>
    (C (.fn F.sl05Zero) [.agg [.int .i64 y2_0, .int .i64 y2_1, .int .i64 y2_2], .sc (.sl s35), .sc (.sl s38)] r32.H).bind fun r39 =>
    (oneP r39.vs).bind fun p40 =>
    p40.agg?.bind fun l41 =>
    cond (decide (l41.length = 3))
    ((slAt l41 0).bind fun s42 =>
     (slAt l41 1).bind fun s43 =>
     (slAt l41 2).bind fun s44 =>
     (C (.loop F.sFormulaNetwork 2) [.sc (.sl s11), .sc (.sl s35), .sc (.sl s38), .sc (.int .i64 0), .agg [.int .i64 y2_0, .int .i64 y2_1, .int .i64 y2_2], .agg [.int .i64 y3_0, .sl y3_1], .agg [.sl s42, .sl s43, .sl s44]] r39.H).bind fun r72 =>
     cond (Nat.beq r72.e 6)
     ((newB r72.H 3 [.sl s42, .sl s43, .sl s44]).bind fun h73 =>
      (rng h73.2 h73.1 0 (1 * 3)).bind fun l74 =>
      (appB h73.2 3 72 y6_3 l74 1).bind fun m75 =>
      C (.loop F.sFormulaNetwork 0) [.sc (.sl x30), .sc (.int .i64 x31), .sc (.int .i64 (IntKind.wrap .i64 (x32 + 1))), .agg [.int .i64 y2_0, .int .i64 y2_1, .int .i64 y2_2], .agg [.int .i64 y3_0, .sl y3_1], .agg [.int .i64 y6_0, .int .i64 y6_1, .int .i64 y6_2, .sl m75.1, .sl y6_4]] m75.2)
     (none))
    (none))
   (none))
  (some ⟨2, [.agg [.int .i64 y6_0, .int .i64 y6_1, .int .i64 y6_2, .sl y6_3, .sl y6_4]], H⟩) := by kernel_rfl
theorem e_sFormulaNetwork_1 (C : Oracle) (x8 x9 x10 : Sl) (x11 y3_0 : Int) (y3_1 : Sl) (H : AH) : (procM P T C (.loop F.sFormulaNetwork 1) [.sc (.sl x8), .sc (.sl x9), .sc (.sl x10), .sc (.int .i64 x11), .agg [.int .i64 y3_0, .sl y3_1]] H).run =
  cond (decide (x11 ≤ y3_0))
  ((((C (.fn F.sl05Find) [.sc (.sl x8), .sc (.int .i64 x11)] H).bind fun r14 =>
   (oneP r14.vs).bind fun p15 =>
   p15.sc?.bind fun c16 =>
   (intAt .i64 [c16] 0).bind fun n17 =>
   cond (decide (n17 ≥ 0))
   (some ⟨0, [.sc (.bool true)], r14.H⟩)
   ((C (.fn F.sl05Find) [.sc (.sl x8), .sc (.int .i64 (IntKind.wrap .i64 (0 - x11)))] r14.H).bind fun r18 =>
    (oneP r18.vs).bind fun p19 =>
    p19.sc?.bind fun c20 =>
    (intAt .i64 [c20] 0).bind fun n21 =>
    some ⟨0, [.sc (.bool (decide (n21 ≥ 0)))], r18.H⟩) : Option Out)).bind fun r22 =>
   cond (Nat.beq r22.e 0)
   ((nthP r22.vs 0).bind fun p23 =>
    p23.sc?.bind fun c24 =>
    (boolAt [c24] 0).bind fun b25 =>
    cond b25
    ((newB r22.H 1 [.int .i64 (IntKind.wrap .i64 (x11 - 1))]).bind fun h26 =>
     (rng h26.2 h26.1 0 (1 * 1)).bind fun l27 =>
     (appB h26.2 1 8 x9 l27 1).bind fun m28 =>
     (newB m28.2 1 [.int .i64 2]).bind fun h29 =>
     (rng h29.2 h29.1 0 (1 * 1)).bind fun l30 =>
     (appB h29.2 1 8 x10 l30 1).bind fun m31 =>
     C (.loop F.sFormulaNetwork 1) [.sc (.sl x8), .sc (.sl m28.1), .sc (.sl m31.1), .sc (.int .i64 (IntKind.wrap .i64 (x11 + 1))), .agg [.int .i64 y3_0, .sl y3_1]] m31.2)
    (C (.loop F.sFormulaNetwork 1) [.sc (.sl x8), .sc (.sl x9), .sc (.sl x10), .sc (.int .i64 (IntKind.wrap .i64 (x11 + 1))), .agg [.int .i64 y3_0, .sl y3_1]] r22.H))
   (none))
  (some ⟨4, [.sc (.sl x9), .sc (.sl x10)], H⟩) := by kernel_rfl
theorem e_sFormulaNetwork_2 (C : Oracle) (x8 x9 x10 : Sl) (x13 y2_0 y2_1 y2_2 y3_0 : Int) (y3_1 y12_0 y12_1 y12_2 : Sl) (H : AH) : (procM P T C (.loop F.sFormulaNetwork 2) [.sc (.sl x8), .sc (.sl x9), .sc (.sl x10), .sc (.int .i64 x13), .agg [.int .i64 y2_0, .int .i64 y2_1, .int .i64 y2_2], .agg [.int .i64 y3_0, .sl y3_1], .agg [.sl y12_0, .sl y12_1, .sl y12_2]] H).run =
  (C (.fn F.sl05Product) [.sc (.sl x10), .sc (.int .i64 4096)] H).bind fun r45 =>
  (oneP r45.vs).bind fun p46 =>
  p46.sc?.bind fun c47 =>
  (intAt .i64 [c47] 0).bind fun n48 =>
  cond (decide (x13 < n48))
  ((mkB r45.H 1 8 [.int .i64 0] y3_0 y3_0).bind fun m49 =>
   (C (.fn F.sl05Index) [.sc (.sl x10), .sc (.int .i64 x13)] m49.2).bind fun r50 =>
   (oneP r50.vs).bind fun p51 =>
   p51.sc?.bind fun c52 =>
   (slAt [c52] 0).bind fun s53 =>
   (C (.loop F.sFormulaNetwork 3) [.sc (.sl x9), .sc (.sl m49.1), .sc (.sl s53), .sc (.int .i64 (s53.n : Int)), .sc (.int .i64 0)] r50.H).bind fun r62 =>
   cond (Nat.beq r62.e 8)
   ((C (.fn F.sl38True) [.sc (.sl x8), .sc (.sl m49.1)] r62.H).bind fun r63 =>
    (oneP r63.vs).bind fun p64 =>
    p64.sc?.bind fun c65 =>
    (boolAt [c65] 0).bind fun b66 =>
    cond b66
    ((C (.fn F.sl02One) [.agg [.int .i64 y2_0, .int .i64 y2_1, .int .i64 y2_2]] r63.H).bind fun r67 =>
     (oneP r67.vs).bind fun p68 =>
     p68.sc?.bind fun c69 =>
     (slAt [c69] 0).bind fun s70 =>
     (C (.fn F.sl05Put) [.agg [.int .i64 y2_0, .int .i64 y2_1, .int .i64 y2_2], .agg [.sl y12_0, .sl y12_1, .sl y12_2], .sc (.int .i64 x13), .sc (.sl s70)] r67.H).bind fun r71 =>
     C (.loop F.sFormulaNetwork 2) [.sc (.sl x8), .sc (.sl x9), .sc (.sl x10), .sc (.int .i64 (IntKind.wrap .i64 (x13 + 1))), .agg [.int .i64 y2_0, .int .i64 y2_1, .int .i64 y2_2], .agg [.int .i64 y3_0, .sl y3_1], .agg [.sl y12_0, .sl y12_1, .sl y12_2]] r71.H)
    (C (.loop F.sFormulaNetwork 2) [.sc (.sl x8), .sc (.sl x9), .sc (.sl x10), .sc (.int .i64 (IntKind.wrap .i64 (x13 + 1))), .agg [.int .i64 y2_0, .int .i64 y2_1, .int .i64 y2_2], .agg [.int .i64 y3_0, .sl y3_1], .agg [.sl y12_0, .sl y12_1, .sl y12_2]] r63.H))
   (none))
  (some ⟨6, [], r45.H⟩) := by kernel_rfl
theorem e_sFormulaNetwork_3 (C : Oracle) (x9 x14 x78 : Sl) (x79 x80 : Int) (H : AH) : (procM P T C (.loop F.sFormulaNetwork 3) [.sc (.sl x9), .sc (.sl x14), .sc (.sl x78), .sc (.int .i64 x79), .sc (.int .i64 x80)] H).run =
  cond (decide (x80 < x79))
  ((ixA x78 x80 1).bind fun o54 =>
   (rdB H x78.b).bind fun c55 =>
   (intAt .i64 c55 o54).bind fun n56 =>
   (ixA x9 x80 1).bind fun o57 =>
   (rdB H x9.b).bind fun c58 =>
   (intAt .i64 c58 o57).bind fun n59 =>
   (ixA x14 n59 1).bind fun o60 =>
   (putR H x14.b o60 [.int .i64 n56]).bind fun H61 =>
   C (.loop F.sFormulaNetwork 3) [.sc (.sl x9), .sc (.sl x14), .sc (.sl x78), .sc (.int .i64 x79), .sc (.int .i64 (IntKind.wrap .i64 (x80 + 1)))] H61)
  (some ⟨8, [], H⟩) := by kernel_rfl
theorem e_sFormulaNetwork_4 (C : Oracle) (x17 y2_0 y2_1 y2_2 y3_0 : Int) (y3_1 : Sl) (y6_0 y6_1 y6_2 : Int) (y6_3 y6_4 : Sl) (H : AH) : (procM P T C (.loop F.sFormulaNetwork 4) [.sc (.int .i64 x17), .agg [.int .i64 y2_0, .int .i64 y2_1, .int .i64 y2_2], .agg [.int .i64 y3_0, .sl y3_1], .agg [.int .i64 y6_0, .int .i64 y6_1, .int .i64 y6_2, .sl y6_3, .sl y6_4]] H).run =
  cond (decide (x17 < y3_0))
  ((C (.fn F.sl12Uses) [.sc (.sl y6_3), .sc (.int .i64 x17)] H).bind fun r83 =>
   (oneP r83.vs).bind fun p84 =>
   p84.sc?.bind fun c85 =>
   (slAt [c85] 0).bind fun s86 =>
   cond ((s86.n : Int) == 0)
   ((C (.fn F.sl02One) [.agg [.int .i64 y2_0, .int .i64 y2_1, .int .i64 y2_2]] (reserve r83.H 1)).bind fun r87 =>
    (oneP r87.vs).bind fun p88 =>
    p88.sc?.bind fun c89 =>
    (slAt [c89] 0).bind fun s90 =>
    (C (.fn F.sl02One) [.agg [.int .i64 y2_0, .int .i64 y2_1, .int .i64 y2_2]] r87.H).bind fun r91 =>
    (oneP r91.vs).bind fun p92 =>
    p92.sc?.bind fun c93 =>
    (slAt [c93] 0).bind fun s94 =>
    (C (.fn F.sl37Pair) [.sc (.int .i64 x17), .sc (.sl s90), .sc (.sl s94)] r91.H).bind fun r95 =>
    (oneP r95.vs).bind fun p96 =>
    p96.agg?.bind fun l97 =>
    cond (decide (l97.length = 3))
    ((slAt l97 0).bind fun s98 =>
     (slAt l97 1).bind fun s99 =>
     (slAt l97 2).bind fun s100 =>
     (newAt r95.H (r83.H.length + 0) 3 [.sl s98, .sl s99, .sl s100]).bind fun h101 =>
     (rng h101.2 h101.1 0 (1 * 3)).bind fun l102 =>
     (appB h101.2 3 72 y6_3 l102 1).bind fun m103 =>
     C (.loop F.sFormulaNetwork 4) [.sc (.int .i64 (IntKind.wrap .i64 (x17 + 1))), .agg [.int .i64 y2_0, .int .i64 y2_1, .int .i64 y2_2], .agg [.int .i64 y3_0, .sl y3_1], .agg [.int .i64 y6_0, .int .i64 y6_1, .int .i64 y6_2, .sl m103.1, .sl y6_4]] m103.2)
    (none))
   (C (.loop F.sFormulaNetwork 4) [.sc (.int .i64 (IntKind.wrap .i64 (x17 + 1))), .agg [.int .i64 y2_0, .int .i64 y2_1, .int .i64 y2_2], .agg [.int .i64 y3_0, .sl y3_1], .agg [.int .i64 y6_0, .int .i64 y6_1, .int .i64 y6_2, .sl y6_3, .sl y6_4]] r83.H))
  (some ⟨10, [.agg [.int .i64 y6_0, .int .i64 y6_1, .int .i64 y6_2, .sl y6_3, .sl y6_4]], H⟩) := by kernel_rfl
theorem e_sFormulaNetwork (C : Oracle) (a0_0 a0_1 a0_2 a1_0 : Int) (a1_1 : Sl) (H : AH) : (procM P T C (.fn F.sFormulaNetwork) [.agg [.int .i64 a0_0, .int .i64 a0_1, .int .i64 a0_2], .agg [.int .i64 a1_0, .sl a1_1]] H).run =
  (C (.fn F.sRingOk) [.agg [.int .i64 a0_0, .int .i64 a0_1, .int .i64 a0_2]] H).bind fun r1 =>
  (oneP r1.vs).bind fun p2 =>
  p2.sc?.bind fun c3 =>
  (boolAt [c3] 0).bind fun b4 =>
  cond (!b4)
  (some ⟨1, [.agg [.int .i64 0, .int .i64 0, .int .i64 0, .sl ⟨0, 0, 0, 0, true⟩, .sl ⟨0, 0, 0, 0, true⟩], .sc (.bool false)], r1.H⟩)
  ((C (.fn F.sCnfOk) [.agg [.int .i64 a1_0, .sl a1_1]] r1.H).bind fun r5 =>
   (oneP r5.vs).bind fun p6 =>
   p6.sc?.bind fun c7 =>
   (boolAt [c7] 0).bind fun b8 =>
   cond (!b8)
   (some ⟨1, [.agg [.int .i64 0, .int .i64 0, .int .i64 0, .sl ⟨0, 0, 0, 0, true⟩, .sl ⟨0, 0, 0, 0, true⟩], .sc (.bool false)], r5.H⟩)
   ((C (.loop F.sFormulaNetwork 0) [.sc (.sl a1_1), .sc (.int .i64 (a1_1.n : Int)), .sc (.int .i64 0), .agg [.int .i64 a0_0, .int .i64 a0_1, .int .i64 a0_2], .agg [.int .i64 a1_0, .sl a1_1], .agg [.int .i64 a0_0, .int .i64 a0_1, .int .i64 a0_2, .sl ⟨0, 0, 0, 0, true⟩, .sl ⟨0, 0, 0, 0, true⟩]] r5.H).bind fun r76 =>
    cond (Nat.beq r76.e 2)
    (((nthP r76.vs 0).bind PV.agg?).bind fun l77 =>
     cond (decide (l77.length = 5))
     ((intAt .i64 l77 0).bind fun n78 =>
      (intAt .i64 l77 1).bind fun n79 =>
      (intAt .i64 l77 2).bind fun n80 =>
      (slAt l77 3).bind fun s81 =>
      (slAt l77 4).bind fun s82 =>
      (C (.loop F.sFormulaNetwork 4) [.sc (.int .i64 0), .agg [.int .i64 a0_0, .int .i64 a0_1, .int .i64 a0_2], .agg [.int .i64 a1_0, .sl a1_1], .agg [.int .i64 n78, .int .i64 n79, .int .i64 n80, .sl s81, .sl s82]] r76.H).bind fun r104 =>
      cond (Nat.beq r104.e 10)
      (((nthP r104.vs 0).bind PV.agg?).bind fun l105 =>
       cond (decide (l105.length = 5))
       ((intAt .i64 l105 0).bind fun n106 =>
        (intAt .i64 l105 1).bind fun n107 =>
        (intAt .i64 l105 2).bind fun n108 =>
        (slAt l105 3).bind fun s109 =>
        (slAt l105 4).bind fun s110 =>
        (C (.fn F.sNetworkOk) [.agg [.int .i64 n106, .int .i64 n107, .int .i64 n108, .sl s109, .sl s110]] r104.H).bind fun r111 =>
        (oneP r111.vs).bind fun p112 =>
        p112.sc?.bind fun c113 =>
        (boolAt [c113] 0).bind fun b114 =>
        cond (!b114)
        (some ⟨1, [.agg [.int .i64 0, .int .i64 0, .int .i64 0, .sl ⟨0, 0, 0, 0, true⟩, .sl ⟨0, 0, 0, 0, true⟩], .sc (.bool false)], r111.H⟩)
        (some ⟨1, [.agg [.int .i64 n106, .int .i64 n107, .int .i64 n108, .sl s109, .sl s110], .sc (.bool true)], r111.H⟩))
       (none))
      (none))
     (none))
    (none))) := by kernel_rfl
/- loop.example/g03211/laws.toRing -/
theorem e_wtoRing (C : Oracle) (a0_0 a0_1 a0_2 : Int) (H : AH) : (procM P T C (.fn F.wtoRing) [.agg [.int .i64 a0_0, .int .i64 a0_1, .int .i64 a0_2]] H).run =
  some ⟨1, [.agg [.int .i64 a0_0, .int .i64 a0_1, .int .i64 a0_2]], H⟩ := by kernel_rfl
/- loop.example/g03211/laws.toCnf -/
theorem e_wtoCnf (C : Oracle) (a0_0 : Int) (a0_1 : Sl) (H : AH) : (procM P T C (.fn F.wtoCnf) [.agg [.int .i64 a0_0, .sl a0_1]] H).run =
  (C (.fn F.wtoIntSS) [.sc (.sl a0_1)] H).bind fun r1 =>
  (oneP r1.vs).bind fun p2 =>
  p2.sc?.bind fun c3 =>
  (slAt [c3] 0).bind fun s4 =>
  some ⟨1, [.agg [.int .i64 a0_0, .sl s4]], r1.H⟩ := by kernel_rfl
/- loop.example/g03211/impl.FormulaNetwork -/
theorem e_iFormulaNetwork_0 (C : Oracle) (x7 x29 : Sl) (x30 x31 y2_0 y2_1 y2_2 y3_0 : Int) (y3_1 : Sl) (y6_0 y6_1 y6_2 : Int) (y6_3 y6_4 : Sl) (H : AH) : (procM P T C (.loop F.iFormulaNetwork 0) [.sc (.sl x7), .sc (.sl x29), .sc (.int .i64 x30), .sc (.int .i64 x31), .agg [.int .i64 y2_0, .int .i64 y2_1, .int .i64 y2_2], .agg [.int .i64 y3_0, .sl y3_1], .agg [.int .i64 y6_0, .int .i64 y6_1, .int .i64 y6_2, .sl y6_3, .sl y6_4]] H).run =
  cond (decide (x31 < x30))
  ((ixA x29 x31 1).bind fun o10 =>
   (rdB H x29.b).bind fun c11 =>
   (slAt c11 o10).bind fun s12 =>
   (C (.fn F.iclauseTensor) [.agg [.int .i64 y2_0, .int .i64 y2_1, .int .i64 y2_2], .agg [.int .i64 y3_0, .sl y3_1], .sc (.sl s12)] (reserve H 1)).bind fun r13 =>
   (oneP r13.vs).bind fun p14 =>
   p14.agg?.bind fun l15 =>
   cond (decide (l15.length = 3))
   ((slAt l15 0).bind fun s16 =>
    (slAt l15 1).bind fun s17 =>
    (slAt l15 2).bind fun s18 =>
    (newAt r13.H (H.length + 0) 3 [.sl s16, .sl s17, .sl s18]).bind fun h19 =>
    (rng h19.2 h19.1 0 (1 * 3)).bind fun l20 =>
    (appB h19.2 3 72 y6_3 l20 1).bind fun m21 =>
    (C (.loop F.iFormulaNetwork 1) [.sc (.sl x7), .sc (.sl s12), .sc (.int .i64 (s12.n : Int)), .sc (.int .i64 0)] m21.2).bind fun r31 =>
    cond (Nat.beq r31.e 4)
    (C (.loop F.iFormulaNetwork 0) [.sc (.sl x7), .sc (.sl x29), .sc (.int .i64 x30), .sc (.int .i64 (IntKind.wrap .i64 (x31 + 1))), .agg [.int .i64 y2_0, .int .i64 y2_1, .int .i64 y2_2], .agg [.int .i64 y3_0, .sl y3_1], .agg [.int .i64 y6_0, .int .i64 y6_1, .int .i64 y6_2, .sl m21.1, .sl y6_4]] r31.H)
    (none))
   (none))
  (some ⟨2, [.agg [.int .i64 y6_0, .int .i64 y6_1, .int .i64 y6_2, .sl y6_3, .sl y6_4]], H⟩) := by kernel_rfl
theorem e_iFormulaNetwork_1 (C : Oracle) (x7 x44 : Sl) (x45 x46 : Int) (H : AH) : (procM P T C (.loop F.iFormulaNetwork 1) [.sc (.sl x7), .sc (.sl x44), .sc (.int .i64 x45), .sc (.int .i64 x46)] H).run =
  cond (decide (x46 < x45))
  ((ixA x44 x46 1).bind fun o22 =>
   (rdB H x44.b).bind fun c23 =>
   (intAt .i64 c23 o22).bind fun n24 =>
   (C (.fn F.ivariableOf) [.sc (.int .i64 n24)] H).bind fun r25 =>
   (oneP r25.vs).bind fun p26 =>
   p26.sc?.bind fun c27 =>
   (intAt .i64 [c27] 0).bind fun n28 =>
   (ixA x7 (IntKind.wrap .i64 (n28 - 1)) 1).bind fun o29 =>
   (putR r25.H x7.b o29 [.bool true]).bind fun H30 =>
   C (.loop F.iFormulaNetwork 1) [.sc (.sl x7), .sc (.sl x44), .sc (.int .i64 x45), .sc (.int .i64 (IntKind.wrap .i64 (x46 + 1)))] H30)
  (some ⟨4, [], H⟩) := by kernel_rfl
theorem e_iFormulaNetwork_2 (C : Oracle) (x57 : Sl) (x58 x59 y2_0 y2_1 y2_2 y6_0 y6_1 y6_2 : Int) (y6_3 y6_4 : Sl) (H : AH) : (procM P T C (.loop F.iFormulaNetwork 2) [.sc (.sl x57), .sc (.int .i64 x58), .sc (.int .i64 x59), .agg [.int .i64 y2_0, .int .i64 y2_1, .int .i64 y2_2], .agg [.int .i64 y6_0, .int .i64 y6_1, .int .i64 y6_2, .sl y6_3, .sl y6_4]] H).run =
  cond (decide (x59 < x58))
  ((ixA x57 x59 1).bind fun o39 =>
   (rdB H x57.b).bind fun c40 =>
   (boolAt c40 o39).bind fun b41 =>
   cond (!b41)
   ((C (.fn F.irawOne) [.agg [.int .i64 y2_0, .int .i64 y2_1, .int .i64 y2_2]] (reserve H 1)).bind fun r42 =>
    (oneP r42.vs).bind fun p43 =>
    p43.sc?.bind fun c44 =>
    (slAt [c44] 0).bind fun s45 =>
    (C (.fn F.irawOne) [.agg [.int .i64 y2_0, .int .i64 y2_1, .int .i64 y2_2]] r42.H).bind fun r46 =>
    (oneP r46.vs).bind fun p47 =>
    p47.sc?.bind fun c48 =>
    (slAt [c48] 0).bind fun s49 =>
    (C (.fn F.ipairTensor) [.sc (.int .i64 x59), .sc (.sl s45), .sc (.sl s49)] r46.H).bind fun r50 =>
    (oneP r50.vs).bind fun p51 =>
    p51.agg?.bind fun l52 =>
    cond (decide (l52.length = 3))
    ((slAt l52 0).bind fun s53 =>
     (slAt l52 1).bind fun s54 =>
     (slAt l52 2).bind fun s55 =>
     (newAt r50.H (H.length + 0) 3 [.sl s53, .sl s54, .sl s55]).bind fun h56 =>
     (rng h56.2 h56.1 0 (1 * 3)).bind fun l57 =>
     (appB h56.2 3 72 y6_3 l57 1).bind fun m58 =>
     C (.loop F.iFormulaNetwork 2) [.sc (.sl x57), .sc (.int .i64 x58), .sc (.int .i64 (IntKind.wrap .i64 (x59 + 1))), .agg [.int .i64 y2_0, .int .i64 y2_1, .int .i64 y2_2], .agg [.int .i64 y6_0, .int .i64 y6_1, .int .i64 y6_2, .sl m58.1, .sl y6_4]] m58.2)
    (none))
   (C (.loop F.iFormulaNetwork 2) [.sc (.sl x57), .sc (.int .i64 x58), .sc (.int .i64 (IntKind.wrap .i64 (x59 + 1))), .agg [.int .i64 y2_0, .int .i64 y2_1, .int .i64 y2_2], .agg [.int .i64 y6_0, .int .i64 y6_1, .int .i64 y6_2, .sl y6_3, .sl y6_4]] H))
  (some ⟨6, [.agg [.int .i64 y6_0, .int .i64 y6_1, .int .i64 y6_2, .sl y6_3, .sl y6_4]], H⟩) := by kernel_rfl
theorem e_iFormulaNetwork (C : Oracle) (a0_0 a0_1 a0_2 a1_0 : Int) (a1_1 : Sl) (H : AH) : (procM P T C (.fn F.iFormulaNetwork) [.agg [.int .i64 a0_0, .int .i64 a0_1, .int .i64 a0_2], .agg [.int .i64 a1_0, .sl a1_1]] H).run =
  (C (.fn F.iRingOk) [.agg [.int .i64 a0_0, .int .i64 a0_1, .int .i64 a0_2]] H).bind fun r1 =>
  (oneP r1.vs).bind fun p2 =>
  p2.sc?.bind fun c3 =>
  (boolAt [c3] 0).bind fun b4 =>
  cond (!b4)
  (some ⟨1, [.agg [.int .i64 0, .int .i64 0, .int .i64 0, .sl ⟨0, 0, 0, 0, true⟩, .sl ⟨0, 0, 0, 0, true⟩], .sc (.bool false)], r1.H⟩)
  ((C (.fn F.iCnfOk) [.agg [.int .i64 a1_0, .sl a1_1]] r1.H).bind fun r5 =>
   (oneP r5.vs).bind fun p6 =>
   p6.sc?.bind fun c7 =>
   (boolAt [c7] 0).bind fun b8 =>
   cond (!b8)
   (some ⟨1, [.agg [.int .i64 0, .int .i64 0, .int .i64 0, .sl ⟨0, 0, 0, 0, true⟩, .sl ⟨0, 0, 0, 0, true⟩], .sc (.bool false)], r5.H⟩)
   ((mkB r5.H 1 1 [.bool false] a1_0 a1_0).bind fun m9 =>
    (C (.loop F.iFormulaNetwork 0) [.sc (.sl m9.1), .sc (.sl a1_1), .sc (.int .i64 (a1_1.n : Int)), .sc (.int .i64 0), .agg [.int .i64 a0_0, .int .i64 a0_1, .int .i64 a0_2], .agg [.int .i64 a1_0, .sl a1_1], .agg [.int .i64 a0_0, .int .i64 a0_1, .int .i64 a0_2, .sl ⟨0, 0, 0, 0, true⟩, .sl ⟨0, 0, 0, 0, true⟩]] m9.2).bind fun r32 =>
    cond (Nat.beq r32.e 2)
    (((nthP r32.vs 0).bind PV.agg?).bind fun l33 =>
     cond (decide (l33.length = 5))
     ((intAt .i64 l33 0).bind fun n34 =>
      (intAt .i64 l33 1).bind fun n35 =>
      (intAt .i64 l33 2).bind fun n36 =>
      (slAt l33 3).bind fun s37 =>
      (slAt l33 4).bind fun s38 =>
      (C (.loop F.iFormulaNetwork 2) [.sc (.sl m9.1), .sc (.int .i64 (m9.1.n : Int)), .sc (.int .i64 0), .agg [.int .i64 a0_0, .int .i64 a0_1, .int .i64 a0_2], .agg [.int .i64 n34, .int .i64 n35, .int .i64 n36, .sl s37, .sl s38]] r32.H).bind fun r59 =>
      cond (Nat.beq r59.e 6)
      (((nthP r59.vs 0).bind PV.agg?).bind fun l60 =>
       cond (decide (l60.length = 5))
       ((intAt .i64 l60 0).bind fun n61 =>
        (intAt .i64 l60 1).bind fun n62 =>
        (intAt .i64 l60 2).bind fun n63 =>
        (slAt l60 3).bind fun s64 =>
        (slAt l60 4).bind fun s65 =>
        (C (.fn F.iNetworkOk) [.agg [.int .i64 n61, .int .i64 n62, .int .i64 n63, .sl s64, .sl s65]] r59.H).bind fun r66 =>
        (oneP r66.vs).bind fun p67 =>
        p67.sc?.bind fun c68 =>
        (boolAt [c68] 0).bind fun b69 =>
        cond (!b69)
        (some ⟨1, [.agg [.int .i64 0, .int .i64 0, .int .i64 0, .sl ⟨0, 0, 0, 0, true⟩, .sl ⟨0, 0, 0, 0, true⟩], .sc (.bool false)], r66.H⟩)
        (some ⟨1, [.agg [.int .i64 n61, .int .i64 n62, .int .i64 n63, .sl s64, .sl s65], .sc (.bool true)], r66.H⟩))
       (none))
      (none))
     (none))
    (none))) := by kernel_rfl
/- loop.example/g03211/laws.eqNetwork -/
theorem e_weqNetwork (C : Oracle) (a0_0 a0_1 a0_2 : Int) (a0_3 a0_4 : Sl) (a1_0 a1_1 a1_2 : Int) (a1_3 a1_4 : Sl) (H : AH) : (procM P T C (.fn F.weqNetwork) [.agg [.int .i64 a0_0, .int .i64 a0_1, .int .i64 a0_2, .sl a0_3, .sl a0_4], .agg [.int .i64 a1_0, .int .i64 a1_1, .int .i64 a1_2, .sl a1_3, .sl a1_4]] H).run =
  (C (.fn F.weqRing) [.agg [.int .i64 a0_0, .int .i64 a0_1, .int .i64 a0_2], .agg [.int .i64 a1_0, .int .i64 a1_1, .int .i64 a1_2]] H).bind fun r1 =>
  (oneP r1.vs).bind fun p2 =>
  p2.sc?.bind fun c3 =>
  (boolAt [c3] 0).bind fun b4 =>
  cond (!b4)
  (some ⟨1, [.sc (.bool false)], r1.H⟩)
  ((C (.fn F.weqTensorS) [.sc (.sl a0_3), .sc (.sl a1_3)] r1.H).bind fun r5 =>
   (oneP r5.vs).bind fun p6 =>
   p6.sc?.bind fun c7 =>
   (boolAt [c7] 0).bind fun b8 =>
   cond (!b8)
   (some ⟨1, [.sc (.bool false)], r5.H⟩)
   ((C (.fn F.weqIntS) [.sc (.sl a0_4), .sc (.sl a1_4)] r5.H).bind fun r9 =>
    (oneP r9.vs).bind fun p10 =>
    p10.sc?.bind fun c11 =>
    (boolAt [c11] 0).bind fun b12 =>
    cond (!b12)
    (some ⟨1, [.sc (.bool false)], r9.H⟩)
    (some ⟨1, [.sc (.bool true)], r9.H⟩))) := by kernel_rfl
/- loop.example/g03211/laws.eqCnf -/
theorem e_weqCnf (C : Oracle) (a0_0 : Int) (a0_1 : Sl) (a1_0 : Int) (a1_1 : Sl) (H : AH) : (procM P T C (.fn F.weqCnf) [.agg [.int .i64 a0_0, .sl a0_1], .agg [.int .i64 a1_0, .sl a1_1]] H).run =
  cond (a0_0 != a1_0)
  (some ⟨1, [.sc (.bool false)], H⟩)
  ((C (.fn F.weqIntSS) [.sc (.sl a0_1), .sc (.sl a1_1)] H).bind fun r1 =>
   (oneP r1.vs).bind fun p2 =>
   p2.sc?.bind fun c3 =>
   (boolAt [c3] 0).bind fun b4 =>
   cond (!b4)
   (some ⟨1, [.sc (.bool false)], r1.H⟩)
   (some ⟨1, [.sc (.bool true)], r1.H⟩)) := by kernel_rfl
/- loop.example/g03211/laws.markCnf -/
theorem e_wmarkCnf (C : Oracle) (a0_0 : Int) (a0_1 : Sl) (a1 : Int) (H : AH) : (procM P T C (.fn F.wmarkCnf) [.agg [.int .i64 a0_0, .sl a0_1], .sc (.int .i64 a1)] H).run =
  (C (.fn F.wmarkIntSS) [.sc (.sl a0_1), .sc (.int .i64 a1)] H).bind fun r1 =>
  (oneP r1.vs).bind fun p2 =>
  p2.sc?.bind fun c3 =>
  (intAt .i64 [c3] 0).bind fun n4 =>
  some ⟨1, [.sc (.int .i64 n4)], r1.H⟩ := by kernel_rfl
/- loop.example/g03211/laws.markNetwork -/
theorem e_wmarkNetwork (C : Oracle) (a0_0 a0_1 a0_2 : Int) (a0_3 a0_4 : Sl) (a1 : Int) (H : AH) : (procM P T C (.fn F.wmarkNetwork) [.agg [.int .i64 a0_0, .int .i64 a0_1, .int .i64 a0_2, .sl a0_3, .sl a0_4], .sc (.int .i64 a1)] H).run =
  (C (.fn F.wmarkTensorS) [.sc (.sl a0_3), .sc (.int .i64 a1)] H).bind fun r1 =>
  (oneP r1.vs).bind fun p2 =>
  p2.sc?.bind fun c3 =>
  (intAt .i64 [c3] 0).bind fun n4 =>
  (C (.fn F.wmarkIntS) [.sc (.sl a0_4), .sc (.int .i64 n4)] r1.H).bind fun r5 =>
  (oneP r5.vs).bind fun p6 =>
  p6.sc?.bind fun c7 =>
  (intAt .i64 [c7] 0).bind fun n8 =>
  some ⟨1, [.sc (.int .i64 n8)], r5.H⟩ := by kernel_rfl
/- loop.example/g03211/laws.heldNetwork -/
theorem e_wheldNetwork (C : Oracle) (a0_0 a0_1 a0_2 : Int) (a0_3 a0_4 : Sl) (a1 : Int) (H : AH) : (procM P T C (.fn F.wheldNetwork) [.agg [.int .i64 a0_0, .int .i64 a0_1, .int .i64 a0_2, .sl a0_3, .sl a0_4], .sc (.int .i64 a1)] H).run =
  (C (.fn F.wheldTensorS) [.sc (.sl a0_3), .sc (.int .i64 a1)] H).bind fun r1 =>
  (oneP r1.vs).bind fun p2 =>
  p2.sc?.bind fun c3 =>
  (intAt .i64 [c3] 0).bind fun n4 =>
  cond (decide (n4 < 0))
  (some ⟨1, [.sc (.int .i64 (-1))], r1.H⟩)
  ((C (.fn F.wheldIntS) [.sc (.sl a0_4), .sc (.int .i64 n4)] r1.H).bind fun r5 =>
   (oneP r5.vs).bind fun p6 =>
   p6.sc?.bind fun c7 =>
   (intAt .i64 [c7] 0).bind fun n8 =>
   cond (decide (n8 < 0))
   (some ⟨1, [.sc (.int .i64 (-1))], r5.H⟩)
   (some ⟨1, [.sc (.int .i64 n8)], r5.H⟩)) := by kernel_rfl
/- loop.example/g03211/laws.szSession -/
theorem e_wszSession (C : Oracle) (a0_0 a0_1 a0_2 : Int) (a0_3 a0_4 a0_5 a0_6 a0_7 : Sl) (a0_8 : Int) (a0_9 a0_10 a0_11 : Sl) (a1 : Int) (H : AH) : (procM P T C (.fn F.wszSession) [.agg [.int .i64 a0_0, .int .i64 a0_1, .int .i64 a0_2, .sl a0_3, .sl a0_4, .sl a0_5, .sl a0_6, .sl a0_7, .int .i64 a0_8, .sl a0_9, .sl a0_10, .sl a0_11], .sc (.int .i64 a1)] H).run =
  (C (.fn F.wszNetwork) [.agg [.int .i64 a0_0, .int .i64 a0_1, .int .i64 a0_2, .sl a0_3, .sl a0_4], .sc (.int .i64 a1)] H).bind fun r1 =>
  (oneP r1.vs).bind fun p2 =>
  p2.sc?.bind fun c3 =>
  (intAt .i64 [c3] 0).bind fun n4 =>
  cond (decide (n4 < 0))
  (some ⟨1, [.sc (.int .i64 (-1))], r1.H⟩)
  ((C (.fn F.wszStepS) [.sc (.sl a0_5), .sc (.int .i64 n4)] r1.H).bind fun r5 =>
   (oneP r5.vs).bind fun p6 =>
   p6.sc?.bind fun c7 =>
   (intAt .i64 [c7] 0).bind fun n8 =>
   cond (decide (n8 < 0))
   (some ⟨1, [.sc (.int .i64 (-1))], r5.H⟩)
   ((C (.fn F.wszJob) [.agg [.sl a0_6, .sl a0_7, .int .i64 a0_8, .sl a0_9, .sl a0_10, .sl a0_11], .sc (.int .i64 n8)] r5.H).bind fun r9 =>
    (oneP r9.vs).bind fun p10 =>
    p10.sc?.bind fun c11 =>
    (intAt .i64 [c11] 0).bind fun n12 =>
    cond (decide (n12 < 0))
    (some ⟨1, [.sc (.int .i64 (-1))], r9.H⟩)
    (some ⟨1, [.sc (.int .i64 n12)], r9.H⟩))) := by kernel_rfl
/- loop.example/g03211/spec.SessionOk -/
theorem e_sSessionOk (C : Oracle) (a0_0 a0_1 a0_2 : Int) (a0_3 a0_4 a0_5 a0_6 a0_7 : Sl) (a0_8 : Int) (a0_9 a0_10 a0_11 : Sl) (H : AH) : (procM P T C (.fn F.sSessionOk) [.agg [.int .i64 a0_0, .int .i64 a0_1, .int .i64 a0_2, .sl a0_3, .sl a0_4, .sl a0_5, .sl a0_6, .sl a0_7, .int .i64 a0_8, .sl a0_9, .sl a0_10, .sl a0_11]] H).run =
  (C (.fn F.sNetworkOk) [.agg [.int .i64 a0_0, .int .i64 a0_1, .int .i64 a0_2, .sl a0_3, .sl a0_4]] H).bind fun r1 =>
  (oneP r1.vs).bind fun p2 =>
  p2.sc?.bind fun c3 =>
  (boolAt [c3] 0).bind fun b4 =>
  cond b4
  ((C (.fn F.sOrderOk) [.agg [.int .i64 a0_0, .int .i64 a0_1, .int .i64 a0_2, .sl a0_3, .sl a0_4], .sc (.sl a0_5)] r1.H).bind fun r5 =>
   (oneP r5.vs).bind fun p6 =>
   p6.sc?.bind fun c7 =>
   (boolAt [c7] 0).bind fun b8 =>
   cond b8
   ((C (.fn F.sJobOk) [.agg [.int .i64 a0_0, .int .i64 a0_1, .int .i64 a0_2, .sl a0_3, .sl a0_4], .agg [.sl a0_6, .sl a0_7, .int .i64 a0_8, .sl a0_9, .sl a0_10, .sl a0_11]] r5.H).bind fun r9 =>
    (oneP r9.vs).bind fun p10 =>
    p10.sc?.bind fun c11 =>
    (boolAt [c11] 0).bind fun b12 =>
    some ⟨1, [.sc (.bool b12)], r9.H⟩)
   (some ⟨1, [.sc (.bool false)], r5.H⟩))
  (some ⟨1, [.sc (.bool false)], r1.H⟩) := by kernel_rfl
/- loop.example/g03211/laws.toSession -/
theorem e_wtoSession (C : Oracle) (a0_0 a0_1 a0_2 : Int) (a0_3 a0_4 a0_5 a0_6 a0_7 : Sl) (a0_8 : Int) (a0_9 a0_10 a0_11 : Sl) (H : AH) : (procM P T C (.fn F.wtoSession) [.agg [.int .i64 a0_0, .int .i64 a0_1, .int .i64 a0_2, .sl a0_3, .sl a0_4, .sl a0_5, .sl a0_6, .sl a0_7, .int .i64 a0_8, .sl a0_9, .sl a0_10, .sl a0_11]] H).run =
  (C (.fn F.wtoNetwork) [.agg [.int .i64 a0_0, .int .i64 a0_1, .int .i64 a0_2, .sl a0_3, .sl a0_4]] H).bind fun r1 =>
  (oneP r1.vs).bind fun p2 =>
  p2.agg?.bind fun l3 =>
  cond (decide (l3.length = 5))
  ((intAt .i64 l3 0).bind fun n4 =>
   (intAt .i64 l3 1).bind fun n5 =>
   (intAt .i64 l3 2).bind fun n6 =>
   (slAt l3 3).bind fun s7 =>
   (slAt l3 4).bind fun s8 =>
   (C (.fn F.wtoStepS) [.sc (.sl a0_5)] r1.H).bind fun r9 =>
   (oneP r9.vs).bind fun p10 =>
   p10.sc?.bind fun c11 =>
   (slAt [c11] 0).bind fun s12 =>
   (C (.fn F.wtoJob) [.agg [.sl a0_6, .sl a0_7, .int .i64 a0_8, .sl a0_9, .sl a0_10, .sl a0_11]] r9.H).bind fun r13 =>
   (oneP r13.vs).bind fun p14 =>
   p14.agg?.bind fun l15 =>
   cond (decide (l15.length = 6))
   ((slAt l15 0).bind fun s16 =>
    (slAt l15 1).bind fun s17 =>
    (intAt .i64 l15 2).bind fun n18 =>
    (slAt l15 3).bind fun s19 =>
    (slAt l15 4).bind fun s20 =>
    (slAt l15 5).bind fun s21 =>
    some ⟨1, [.agg [.int .i64 n4, .int .i64 n5, .int .i64 n6, .sl s7, .sl s8, .sl s12, .sl s16, .sl s17, .int .i64 n18, .sl s19, .sl s20, .sl s21]], r13.H⟩)
   (none))
  (none) := by kernel_rfl
/- loop.example/g03211/impl.SessionOk -/
theorem e_iSessionOk (C : Oracle) (a0_0 a0_1 a0_2 : Int) (a0_3 a0_4 a0_5 a0_6 a0_7 : Sl) (a0_8 : Int) (a0_9 a0_10 a0_11 : Sl) (H : AH) : (procM P T C (.fn F.iSessionOk) [.agg [.int .i64 a0_0, .int .i64 a0_1, .int .i64 a0_2, .sl a0_3, .sl a0_4, .sl a0_5, .sl a0_6, .sl a0_7, .int .i64 a0_8, .sl a0_9, .sl a0_10, .sl a0_11]] H).run =
  (C (.fn F.iNetworkOk) [.agg [.int .i64 a0_0, .int .i64 a0_1, .int .i64 a0_2, .sl a0_3, .sl a0_4]] H).bind fun r1 =>
  (oneP r1.vs).bind fun p2 =>
  p2.sc?.bind fun c3 =>
  (boolAt [c3] 0).bind fun b4 =>
  cond b4
  ((C (.fn F.iOrderOk) [.agg [.int .i64 a0_0, .int .i64 a0_1, .int .i64 a0_2, .sl a0_3, .sl a0_4], .sc (.sl a0_5)] r1.H).bind fun r5 =>
   (oneP r5.vs).bind fun p6 =>
   p6.sc?.bind fun c7 =>
   (boolAt [c7] 0).bind fun b8 =>
   cond b8
   ((C (.fn F.iJobOk) [.agg [.int .i64 a0_0, .int .i64 a0_1, .int .i64 a0_2, .sl a0_3, .sl a0_4], .agg [.sl a0_6, .sl a0_7, .int .i64 a0_8, .sl a0_9, .sl a0_10, .sl a0_11]] r5.H).bind fun r9 =>
    (oneP r9.vs).bind fun p10 =>
    p10.sc?.bind fun c11 =>
    (boolAt [c11] 0).bind fun b12 =>
    some ⟨1, [.sc (.bool b12)], r9.H⟩)
   (some ⟨1, [.sc (.bool false)], r5.H⟩))
  (some ⟨1, [.sc (.bool false)], r1.H⟩) := by kernel_rfl
/- loop.example/g03211/laws.eqSession -/
theorem e_weqSession (C : Oracle) (a0_0 a0_1 a0_2 : Int) (a0_3 a0_4 a0_5 a0_6 a0_7 : Sl) (a0_8 : Int) (a0_9 a0_10 a0_11 : Sl) (a1_0 a1_1 a1_2 : Int) (a1_3 a1_4 a1_5 a1_6 a1_7 : Sl) (a1_8 : Int) (a1_9 a1_10 a1_11 : Sl) (H : AH) : (procM P T C (.fn F.weqSession) [.agg [.int .i64 a0_0, .int .i64 a0_1, .int .i64 a0_2, .sl a0_3, .sl a0_4, .sl a0_5, .sl a0_6, .sl a0_7, .int .i64 a0_8, .sl a0_9, .sl a0_10, .sl a0_11], .agg [.int .i64 a1_0, .int .i64 a1_1, .int .i64 a1_2, .sl a1_3, .sl a1_4, .sl a1_5, .sl a1_6, .sl a1_7, .int .i64 a1_8, .sl a1_9, .sl a1_10, .sl a1_11]] H).run =
  (C (.fn F.weqNetwork) [.agg [.int .i64 a0_0, .int .i64 a0_1, .int .i64 a0_2, .sl a0_3, .sl a0_4], .agg [.int .i64 a1_0, .int .i64 a1_1, .int .i64 a1_2, .sl a1_3, .sl a1_4]] H).bind fun r1 =>
  (oneP r1.vs).bind fun p2 =>
  p2.sc?.bind fun c3 =>
  (boolAt [c3] 0).bind fun b4 =>
  cond (!b4)
  (some ⟨1, [.sc (.bool false)], r1.H⟩)
  ((C (.fn F.weqStepS) [.sc (.sl a0_5), .sc (.sl a1_5)] r1.H).bind fun r5 =>
   (oneP r5.vs).bind fun p6 =>
   p6.sc?.bind fun c7 =>
   (boolAt [c7] 0).bind fun b8 =>
   cond (!b8)
   (some ⟨1, [.sc (.bool false)], r5.H⟩)
   ((C (.fn F.weqJob) [.agg [.sl a0_6, .sl a0_7, .int .i64 a0_8, .sl a0_9, .sl a0_10, .sl a0_11], .agg [.sl a1_6, .sl a1_7, .int .i64 a1_8, .sl a1_9, .sl a1_10, .sl a1_11]] r5.H).bind fun r9 =>
    (oneP r9.vs).bind fun p10 =>
    p10.sc?.bind fun c11 =>
    (boolAt [c11] 0).bind fun b12 =>
    cond (!b12)
    (some ⟨1, [.sc (.bool false)], r9.H⟩)
    (some ⟨1, [.sc (.bool true)], r9.H⟩))) := by kernel_rfl
/- loop.example/g03211/laws.szCircuit -/
theorem e_wszCircuit (C : Oracle) (a0_0 a0_1 : Int) (a0_2 : Sl) (a1 : Int) (H : AH) : (procM P T C (.fn F.wszCircuit) [.agg [.int .i64 a0_0, .int .i64 a0_1, .sl a0_2], .sc (.int .i64 a1)] H).run =
  (C (.fn F.wszGateS) [.sc (.sl a0_2), .sc (.int .i64 a1)] H).bind fun r1 =>
  (oneP r1.vs).bind fun p2 =>
  p2.sc?.bind fun c3 =>
  (intAt .i64 [c3] 0).bind fun n4 =>
  cond (decide (n4 < 0))
  (some ⟨1, [.sc (.int .i64 (-1))], r1.H⟩)
  (some ⟨1, [.sc (.int .i64 n4)], r1.H⟩) := by kernel_rfl
/- loop.example/g03211/spec.CircuitNetwork -/
theorem e_sCircuitNetwork_0 (C : Oracle) (x1 x8 y2_0 y2_1 : Int) (y2_2 : Sl) (y6_0 y6_1 y6_2 y7_0 y7_1 y7_2 : Int) (y7_3 y7_4 : Sl) (H : AH) : (procM P T C (.loop F.sCircuitNetwork 0) [.sc (.int .i64 x1), .sc (.int .i64 x8), .agg [.int .i64 y2_0, .int .i64 y2_1, .sl y2_2], .agg [.int .i64 y6_0, .int .i64 y6_1, .int .i64 y6_2], .agg [.int .i64 y7_0, .int .i64 y7_1, .int .i64 y7_2, .sl y7_3, .sl y7_4]] H).run =
  cond (decide (x8 < y2_1))
  ((newB H 1 [.int .i64 x8]).bind fun h15 =>
   (newB h15.2 1 [.int .i64 2]).bind fun h16 =>
   (C (.fn F.sl05Zero) [.agg [.int .i64 y6_0, .int .i64 y6_1, .int .i64 y6_2], .sc (.sl ⟨h15.1, 0, 1, 1, true⟩), .sc (.sl ⟨h16.1, 0, 1, 1, true⟩)] h16.2).bind fun r17 =>
   (oneP r17.vs).bind fun p18 =>
   p18.agg?.bind fun l19 =>
   cond (decide (l19.length = 3))
   ((slAt l19 0).bind fun s20 =>
    (slAt l19 1).bind fun s21 =>
    (slAt l19 2).bind fun s22 =>
    cond (decide (x8 < 0))
    (none)
    ((C (.fn F.sl02One) [.agg [.int .i64 y6_0, .int .i64 y6_1, .int .i64 y6_2]] r17.H).bind fun r23 =>
     (oneP r23.vs).bind fun p24 =>
     p24.sc?.bind fun c25 =>
     (slAt [c25] 0).bind fun s26 =>
     (C (.fn F.sl05Put) [.agg [.int .i64 y6_0, .int .i64 y6_1, .int .i64 y6_2], .agg [.sl s20, .sl s21, .sl s22], .sc (.int .i64 (bitAnd .i64 (shlR .i64 x1 x8) 1)), .sc (.sl s26)] r23.H).bind fun r27 =>
     (newB r27.H 3 [.sl s20, .sl s21, .sl s22]).bind fun h28 =>
     (rng h28.2 h28.1 0 (1 * 3)).bind fun l29 =>
     (appB h28.2 3 72 y7_3 l29 1).bind fun m30 =>
     (newB m30.2 1 [.int .i64 x8]).bind fun h31 =>
     (rng h31.2 h31.1 0 (1 * 1)).bind fun l32 =>
     (appB h31.2 1 8 y7_4 l32 1).bind fun m33 =>
     C (.loop F.sCircuitNetwork 0) [.sc (.int .i64 x1), .sc (.int .i64 (IntKind.wrap .i64 (x8 + 1))), .agg [.int .i64 y2_0, .int .i64 y2_1, .sl y2_2], .agg [.int .i64 y6_0, .int .i64 y6_1, .int .i64 y6_2], .agg [.int .i64 y7_0, .int .i64 y7_1, .int .i64 y7_2, .sl m30.1, .sl m33.1]] m33.2))
   (none))
  (some ⟨2, [.agg [.int .i64 y7_0, .int .i64 y7_1, .int .i64 y7_2, .sl y7_3, .sl y7_4]], H⟩) := by kernel_rfl
theorem e_sCircuitNetwork_1 (C : Oracle) (x10 : Int) (x72 : Sl) (x73 x74 y2_0 y2_1 : Int) (y2_2 : Sl) (y7_0 y7_1 y7_2 : Int) (y7_3 y7_4 : Sl) (H : AH) : (procM P T C (.loop F.sCircuitNetwork 1) [.sc (.int .i64 x10), .sc (.sl x72), .sc (.int .i64 x73), .sc (.int .i64 x74), .agg [.int .i64 y2_0, .int .i64 y2_1, .sl y2_2], .agg [.int .i64 y7_0, .int .i64 y7_1, .int .i64 y7_2, .sl y7_3, .sl y7_4]] H).run =
  cond (decide (x74 < x73))
  ((ixA x72 x74 3).bind fun o41 =>
   (rdB H x72.b).bind fun c42 =>
   (intAt .i64 c42 o41).bind fun n43 =>
   (intAt .i64 c42 (o41 + 1)).bind fun n44 =>
   (intAt .i64 c42 (o41 + 1 + 1)).bind fun n45 =>
   (newB H 1 []).bind fun h46 =>
   (newB h46.2 1 []).bind fun h47 =>
   (C (.fn F.sl40Lines) [.agg [.int .i64 n43, .int .i64 n44, .int .i64 n45]] h47.2).bind fun r48 =>
   (oneP r48.vs).bind fun p49 =>
   p49.sc?.bind fun c50 =>
   (slAt [c50] 0).bind fun s51 =>
   (C (.loop F.sCircuitNetwork 2) [.sc (.int .i64 x10), .sc (.sl ⟨h46.1, 0, 0, 0, true⟩), .sc (.sl ⟨h47.1, 0, 0, 0, true⟩), .sc (.sl s51), .sc (.int .i64 (s51.n : Int)), .sc (.int .i64 0), .agg [.int .i64 y7_0, .int .i64 y7_1, .int .i64 y7_2, .sl y7_3, .sl y7_4]] r48.H).bind fun r64 =>
   cond (Nat.beq r64.e 6)
   ((nthP r64.vs 0).bind fun p65 =>
    p65.sc?.bind fun c66 =>
    (intAt .i64 [c66] 0).bind fun n67 =>
    (nthP r64.vs 1).bind fun p68 =>
    p68.sc?.bind fun c69 =>
    (slAt [c69] 0).bind fun s70 =>
    (nthP r64.vs 2).bind fun p71 =>
    p71.sc?.bind fun c72 =>
    (slAt [c72] 0).bind fun s73 =>
    (C (.fn F.sl05Ints) [.sc (.sl s70)] (reserve r64.H 1)).bind fun r74 =>
    (oneP r74.vs).bind fun p75 =>
    p75.sc?.bind fun c76 =>
    (slAt [c76] 0).bind fun s77 =>
    (rng r74.H s73.b s73.o (s73.n * 1)).bind fun l78 =>
    (appB r74.H 1 8 s77 l78 s73.n).bind fun m79 =>
    (C (.fn F.sl40Gate) [.sc (.int .i64 y2_0), .sc (.int .i64 n43), .sc (.sl m79.1)] m79.2).bind fun r80 =>
    (oneP r80.vs).bind fun p81 =>
    p81.agg?.bind fun l82 =>
    cond (decide (l82.length = 3))
    ((slAt l82 0).bind fun s83 =>
     (slAt l82 1).bind fun s84 =>
     (slAt l82 2).bind fun s85 =>
     (newAt r80.H (r64.H.length + 0) 3 [.sl s83, .sl s84, .sl s85]).bind fun h86 =>
     (rng h86.2 h86.1 0 (1 * 3)).bind fun l87 =>
     (appB h86.2 3 72 y7_3 l87 1).bind fun m88 =>
     (C (.fn F.sl40Lines) [.agg [.int .i64 n43, .int .i64 n44, .int .i64 n45]] m88.2).bind fun r89 =>
     (oneP r89.vs).bind fun p90 =>
     p90.sc?.bind fun c91 =>
     (slAt [c91] 0).bind fun s92 =>
     (C (.loop F.sCircuitNetwork 3) [.sc (.sl s70), .sc (.sl s92), .sc (.int .i64 (s92.n : Int)), .sc (.int .i64 0), .agg [.int .i64 y7_0, .int .i64 y7_1, .int .i64 y7_2, .sl m88.1, .sl y7_4]] r89.H).bind fun r101 =>
     cond (Nat.beq r101.e 8)
     (C (.loop F.sCircuitNetwork 1) [.sc (.int .i64 n67), .sc (.sl x72), .sc (.int .i64 x73), .sc (.int .i64 (IntKind.wrap .i64 (x74 + 1))), .agg [.int .i64 y2_0, .int .i64 y2_1, .sl y2_2], .agg [.int .i64 y7_0, .int .i64 y7_1, .int .i64 y7_2, .sl m88.1, .sl y7_4]] r101.H)
     (none))
    (none))
   (none))
  (some ⟨4, [.agg [.int .i64 y7_0, .int .i64 y7_1, .int .i64 y7_2, .sl y7_3, .sl y7_4]], H⟩) := by kernel_rfl
theorem e_sCircuitNetwork_2 (C : Oracle) (x10 : Int) (x13 x14 x81 : Sl) (x82 x83 y7_0 y7_1 y7_2 : Int) (y7_3 y7_4 : Sl) (H : AH) : (procM P T C (.loop F.sCircuitNetwork 2) [.sc (.int .i64 x10), .sc (.sl x13), .sc (.sl x14), .sc (.sl x81), .sc (.int .i64 x82), .sc (.int .i64 x83), .agg [.int .i64 y7_0, .int .i64 y7_1, .int .i64 y7_2, .sl y7_3, .sl y7_4]] H).run =
  cond (decide (x83 < x82))
  ((ixA x81 x83 1).bind fun o52 =>
   (rdB H x81.b).bind fun c53 =>
   (intAt .i64 c53 o52).bind fun n54 =>
   (newB H 1 [.int .i64 x10]).bind fun h55 =>
   (rng h55.2 h55.1 0 (1 * 1)).bind fun l56 =>
   (appB h55.2 1 8 x13 l56 1).bind fun m57 =>
   (ixA y7_4 n54 1).bind fun o58 =>
   (rdB m57.2 y7_4.b).bind fun c59 =>
   (intAt .i64 c59 o58).bind fun n60 =>
   (newB m57.2 1 [.int .i64 n60]).bind fun h61 =>
   (rng h61.2 h61.1 0 (1 * 1)).bind fun l62 =>
   (appB h61.2 1 8 x14 l62 1).bind fun m63 =>
   C (.loop F.sCircuitNetwork 2) [.sc (.int .i64 (IntKind.wrap .i64 (x10 + 1))), .sc (.sl m57.1), .sc (.sl m63.1), .sc (.sl x81), .sc (.int .i64 x82), .sc (.int .i64 (IntKind.wrap .i64 (x83 + 1))), .agg [.int .i64 y7_0, .int .i64 y7_1, .int .i64 y7_2, .sl y7_3, .sl y7_4]] m63.2)
  (some ⟨6, [.sc (.int .i64 x10), .sc (.sl x13), .sc (.sl x14)], H⟩) := by kernel_rfl
theorem e_sCircuitNetwork_3 (C : Oracle) (x13 x117 : Sl) (x118 x119 y7_0 y7_1 y7_2 : Int) (y7_3 y7_4 : Sl) (H : AH) : (procM P T C (.loop F.sCircuitNetwork 3) [.sc (.sl x13), .sc (.sl x117), .sc (.int .i64 x118), .sc (.int .i64 x119), .agg [.int .i64 y7_0, .int .i64 y7_1, .int .i64 y7_2, .sl y7_3, .sl y7_4]] H).run =
  cond (decide (x119 < x118))
  ((ixA x117 x119 1).bind fun o93 =>
   (rdB H x117.b).bind fun c94 =>
   (intAt .i64 c94 o93).bind fun n95 =>
   (ixA x13 x119 1).bind fun o96 =>
   (rdB H x13.b).bind fun c97 =>
   (intAt .i64 c97 o96).bind fun n98 =>
   (ixA y7_4 n95 1).bind fun o99 =>
   (putR H y7_4.b o99 [.int .i64 n98]).bind fun H100 =>
   C (.loop F.sCircuitNetwork 3) [.sc (.sl x13), .sc (.sl x117), .sc (.int .i64 x118), .sc (.int .i64 (IntKind.wrap .i64 (x119 + 1))), .agg [.int .i64 y7_0, .int .i64 y7_1, .int .i64 y7_2, .sl y7_3, .sl y7_4]] H100)
  (some ⟨8, [], H⟩) := by kernel_rfl
theorem e_sCircuitNetwork (C : Oracle) (a0_0 a0_1 : Int) (a0_2 : Sl) (a1 : Int) (H : AH) : (procM P T C (.fn F.sCircuitNetwork) [.agg [.int .i64 a0_0, .int .i64 a0_1, .sl a0_2], .sc (.int .i64 a1)] H).run =
  (C (.fn F.sCircuitOk) [.agg [.int .i64 a0_0, .int .i64 a0_1, .sl a0_2]] H).bind fun r1 =>
  (oneP r1.vs).bind fun p2 =>
  p2.sc?.bind fun c3 =>
  (boolAt [c3] 0).bind fun b4 =>
  cond (!b4)
  (some ⟨1, [.agg [.int .i64 0, .int .i64 0, .int .i64 0, .sl ⟨0, 0, 0, 0, true⟩, .sl ⟨0, 0, 0, 0, true⟩], .sc (.bool false)], r1.H⟩)
  (cond (decide (a0_1 < 0))
   (none)
   ((C (.fn F.sl01In) [.sc (.int .i64 a1), .sc (.int .i64 0), .sc (.int .i64 (IntKind.wrap .i64 ((shlL .i64 1 a0_1) - 1)))] r1.H).bind fun r5 =>
    (oneP r5.vs).bind fun p6 =>
    p6.sc?.bind fun c7 =>
    (boolAt [c7] 0).bind fun b8 =>
    cond (!b8)
    (some ⟨1, [.agg [.int .i64 0, .int .i64 0, .int .i64 0, .sl ⟨0, 0, 0, 0, true⟩, .sl ⟨0, 0, 0, 0, true⟩], .sc (.bool false)], r5.H⟩)
    ((C (.fn F.sl40Ring) [.sc (.int .i64 a0_0)] r5.H).bind fun r9 =>
     (oneP r9.vs).bind fun p10 =>
     p10.agg?.bind fun l11 =>
     cond (decide (l11.length = 3))
     ((intAt .i64 l11 0).bind fun n12 =>
      (intAt .i64 l11 1).bind fun n13 =>
      (intAt .i64 l11 2).bind fun n14 =>
      (C (.loop F.sCircuitNetwork 0) [.sc (.int .i64 a1), .sc (.int .i64 0), .agg [.int .i64 a0_0, .int .i64 a0_1, .sl a0_2], .agg [.int .i64 n12, .int .i64 n13, .int .i64 n14], .agg [.int .i64 n12, .int .i64 n13, .int .i64 n14, .sl ⟨0, 0, 0, 0, true⟩, .sl ⟨0, 0, 0, 0, true⟩]] r9.H).bind fun r34 =>
      cond (Nat.beq r34.e 2)
      (((nthP r34.vs 0).bind PV.agg?).bind fun l35 =>
       cond (decide (l35.length = 5))
       ((intAt .i64 l35 0).bind fun n36 =>
        (intAt .i64 l35 1).bind fun n37 =>
        (intAt .i64 l35 2).bind fun n38 =>
        (slAt l35 3).bind fun s39 =>
        (slAt l35 4).bind fun s40 =>
        (C (.loop F.sCircuitNetwork 1) [.sc (.int .i64 a0_1), .sc (.sl a0_2), .sc (.int .i64 (a0_2.n : Int)), .sc (.int .i64 0), .agg [.int .i64 a0_0, .int .i64 a0_1, .sl a0_2], .agg [.int .i64 n36, .int .i64 n37, .int .i64 n38, .sl s39, .sl s40]] r34.H).bind fun r102 =>
        cond (Nat.beq r102.e 4)
        (((nthP r102.vs 0).bind PV.agg?).bind fun l103 =>
         cond (decide (l103.length = 5))
         ((intAt .i64 l103 0).bind fun n104 =>
          (intAt .i64 l103 1).bind fun n105 =>
          (intAt .i64 l103 2).bind fun n106 =>
          (slAt l103 3).bind fun s107 =>
          (slAt l103 4).bind fun s108 =>
          (C (.fn F.sNetworkOk) [.agg [.int .i64 n104, .int .i64 n105, .int .i64 n106, .sl s107, .sl s108]] r102.H).bind fun r109 =>
          (oneP r109.vs).bind fun p110 =>
          p110.sc?.bind fun c111 =>
          (boolAt [c111] 0).bind fun b112 =>
          cond (!b112)
          (some ⟨1, [.agg [.int .i64 0, .int .i64 0, .int .i64 0, .sl ⟨0, 0, 0, 0, true⟩, .sl ⟨0, 0, 0, 0, true⟩], .sc (.bool false)], r109.H⟩)
          (some ⟨1, [.agg [.int .i64 n104, .int .i64 n105, .int .i64 n106, .sl s107, .sl s108], .sc (.bool true)], r109.H⟩))
         (none))
        (none))
       (none))
      (none))
     (none)))) := by kernel_rfl
/- loop.example/g03211/laws.toCircuit -/
theorem e_wtoCircuit (C : Oracle) (a0_0 a0_1 : Int) (a0_2 : Sl) (H : AH) : (procM P T C (.fn F.wtoCircuit) [.agg [.int .i64 a0_0, .int .i64 a0_1, .sl a0_2]] H).run =
  (C (.fn F.wtoGateS) [.sc (.sl a0_2)] H).bind fun r1 =>
  (oneP r1.vs).bind fun p2 =>
  p2.sc?.bind fun c3 =>
  (slAt [c3] 0).bind fun s4 =>
  some ⟨1, [.agg [.int .i64 a0_0, .int .i64 a0_1, .sl s4]], r1.H⟩ := by kernel_rfl
/- loop.example/g03211/impl.CircuitNetwork -/
theorem e_iCircuitNetwork_0 (C : Oracle) (x1 : Int) (x7 x8 : Sl) (x9 y2_0 y2_1 : Int) (y2_2 : Sl) (y6_0 y6_1 y6_2 : Int) (y6_3 y6_4 : Sl) (H : AH) : (procM P T C (.loop F.iCircuitNetwork 0) [.sc (.int .i64 x1), .sc (.sl x7), .sc (.sl x8), .sc (.int .i64 x9), .agg [.int .i64 y2_0, .int .i64 y2_1, .sl y2_2], .agg [.int .i64 y6_0, .int .i64 y6_1, .int .i64 y6_2, .sl y6_3, .sl y6_4]] H).run =
  cond (decide (x9 < y2_1))
  (cond (decide (x9 < 0))
   (none)
   (cond ((bitAnd .i64 (shlR .i64 x1 x9) 1) == 1)
    ((C (.fn F.ipairTensor) [.sc (.int .i64 x9), .sc (.sl x7), .sc (.sl x8)] (reserve H 1)).bind fun r16 =>
     (oneP r16.vs).bind fun p17 =>
     p17.agg?.bind fun l18 =>
     cond (decide (l18.length = 3))
     ((slAt l18 0).bind fun s19 =>
      (slAt l18 1).bind fun s20 =>
      (slAt l18 2).bind fun s21 =>
      (newAt r16.H (H.length + 0) 3 [.sl s19, .sl s20, .sl s21]).bind fun h22 =>
      (rng h22.2 h22.1 0 (1 * 3)).bind fun l23 =>
      (appB h22.2 3 72 y6_3 l23 1).bind fun m24 =>
      C (.loop F.iCircuitNetwork 0) [.sc (.int .i64 x1), .sc (.sl x7), .sc (.sl x8), .sc (.int .i64 (IntKind.wrap .i64 (x9 + 1))), .agg [.int .i64 y2_0, .int .i64 y2_1, .sl y2_2], .agg [.int .i64 y6_0, .int .i64 y6_1, .int .i64 y6_2, .sl m24.1, .sl y6_4]] m24.2)
     (none))
    ((C (.fn F.ipairTensor) [.sc (.int .i64 x9), .sc (.sl x8), .sc (.sl x7)] (reserve H 1)).bind fun r25 =>
     (oneP r25.vs).bind fun p26 =>
     p26.agg?.bind fun l27 =>
     cond (decide (l27.length = 3))
     ((slAt l27 0).bind fun s28 =>
      (slAt l27 1).bind fun s29 =>
      (slAt l27 2).bind fun s30 =>
      (newAt r25.H (H.length + 0) 3 [.sl s28, .sl s29, .sl s30]).bind fun h31 =>
      (rng h31.2 h31.1 0 (1 * 3)).bind fun l32 =>
      (appB h31.2 3 72 y6_3 l32 1).bind fun m33 =>
      C (.loop F.iCircuitNetwork 0) [.sc (.int .i64 x1), .sc (.sl x7), .sc (.sl x8), .sc (.int .i64 (IntKind.wrap .i64 (x9 + 1))), .agg [.int .i64 y2_0, .int .i64 y2_1, .sl y2_2], .agg [.int .i64 y6_0, .int .i64 y6_1, .int .i64 y6_2, .sl m33.1, .sl y6_4]] m33.2)
     (none))))
  (some ⟨2, [.agg [.int .i64 y6_0, .int .i64 y6_1, .int .i64 y6_2, .sl y6_3, .sl y6_4]], H⟩) := by kernel_rfl
theorem e_iCircuitNetwork_1 (C : Oracle) (x10 : Sl) (x11 : Int) (x88 : Sl) (x89 x90 y2_0 y2_1 : Int) (y2_2 : Sl) (y6_0 y6_1 y6_2 : Int) (y6_3 y6_4 : Sl) (H : AH) : (procM P T C (.loop F.iCircuitNetwork 1) [.sc (.sl x10), .sc (.int .i64 x11), .sc (.sl x88), .sc (.int .i64 x89), .sc (.int .i64 x90), .agg [.int .i64 y2_0, .int .i64 y2_1, .sl y2_2], .agg [.int .i64 y6_0, .int .i64 y6_1, .int .i64 y6_2, .sl y6_3, .sl y6_4]] H).run =
  cond (decide (x90 < x89))
  ((ixA x88 x90 3).bind fun o45 =>
   (rdB H x88.b).bind fun c46 =>
   (intAt .i64 c46 o45).bind fun n47 =>
   (intAt .i64 c46 (o45 + 1)).bind fun n48 =>
   (intAt .i64 c46 (o45 + 1 + 1)).bind fun n49 =>
   (C (.fn F.igateQubits) [.agg [.int .i64 n47, .int .i64 n48, .int .i64 n49]] H).bind fun r50 =>
   (oneP r50.vs).bind fun p51 =>
   p51.sc?.bind fun c52 =>
   (slAt [c52] 0).bind fun s53 =>
   (C (.loop F.iCircuitNetwork 2) [.sc (.sl x10), .sc (.int .i64 x11), .sc (.sl ⟨0, 0, 0, 0, true⟩), .sc (.sl ⟨0, 0, 0, 0, true⟩), .sc (.sl s53), .sc (.int .i64 (s53.n : Int)), .sc (.int .i64 0)] r50.H).bind fun r68 =>
   cond (Nat.beq r68.e 6)
   ((nthP r68.vs 0).bind fun p69 =>
    p69.sc?.bind fun c70 =>
    (intAt .i64 [c70] 0).bind fun n71 =>
    (nthP r68.vs 1).bind fun p72 =>
    p72.sc?.bind fun c73 =>
    (slAt [c73] 0).bind fun s74 =>
    (nthP r68.vs 2).bind fun p75 =>
    p75.sc?.bind fun c76 =>
    (slAt [c76] 0).bind fun s77 =>
    (rng r68.H s74.b s74.o (s74.n * 1)).bind fun l78 =>
    (appB r68.H 1 8 s77 l78 s74.n).bind fun m79 =>
    (C (.fn F.itwos) [.sc (.int .i64 (IntKind.wrap .i64 (2 * (s74.n : Int))))] m79.2).bind fun r80 =>
    (oneP r80.vs).bind fun p81 =>
    p81.sc?.bind fun c82 =>
    (slAt [c82] 0).bind fun s83 =>
    (C (.fn F.igateMatrix) [.sc (.int .i64 y2_0), .sc (.int .i64 n47)] r80.H).bind fun r84 =>
    (oneP r84.vs).bind fun p85 =>
    p85.sc?.bind fun c86 =>
    (slAt [c86] 0).bind fun s87 =>
    (C (.loop F.iCircuitNetwork 3) [.sc (.sl s87), .sc (.int .i64 (s87.n : Int)), .sc (.int .i64 0), .agg [.sl m79.1, .sl s83, .sl ⟨0, 0, 0, 0, true⟩]] r84.H).bind fun r93 =>
    cond (Nat.beq r93.e 8)
    (((nthP r93.vs 0).bind PV.agg?).bind fun l94 =>
     cond (decide (l94.length = 3))
     ((slAt l94 0).bind fun s95 =>
      (slAt l94 1).bind fun s96 =>
      (slAt l94 2).bind fun s97 =>
      (newB r93.H 3 [.sl s95, .sl s96, .sl s97]).bind fun h98 =>
      (rng h98.2 h98.1 0 (1 * 3)).bind fun l99 =>
      (appB h98.2 3 72 y6_3 l99 1).bind fun m100 =>
      C (.loop F.iCircuitNetwork 1) [.sc (.sl x10), .sc (.int .i64 n71), .sc (.sl x88), .sc (.int .i64 x89), .sc (.int .i64 (IntKind.wrap .i64 (x90 + 1))), .agg [.int .i64 y2_0, .int .i64 y2_1, .sl y2_2], .agg [.int .i64 y6_0, .int .i64 y6_1, .int .i64 y6_2, .sl m100.1, .sl y6_4]] m100.2)
     (none))
    (none))
   (none))
  (some ⟨4, [.agg [.int .i64 y6_0, .int .i64 y6_1, .int .i64 y6_2, .sl y6_3, .sl y6_4]], H⟩) := by kernel_rfl
theorem e_iCircuitNetwork_2 (C : Oracle) (x10 : Sl) (x11 : Int) (x14 x15 x95 : Sl) (x96 x97 : Int) (H : AH) : (procM P T C (.loop F.iCircuitNetwork 2) [.sc (.sl x10), .sc (.int .i64 x11), .sc (.sl x14), .sc (.sl x15), .sc (.sl x95), .sc (.int .i64 x96), .sc (.int .i64 x97)] H).run =
  cond (decide (x97 < x96))
  ((ixA x95 x97 1).bind fun o54 =>
   (rdB H x95.b).bind fun c55 =>
   (intAt .i64 c55 o54).bind fun n56 =>
   (ixA x10 n56 1).bind fun o57 =>
   (rdB H x10.b).bind fun c58 =>
   (intAt .i64 c58 o57).bind fun n59 =>
   (newB H 1 [.int .i64 n59]).bind fun h60 =>
   (rng h60.2 h60.1 0 (1 * 1)).bind fun l61 =>
   (appB h60.2 1 8 x14 l61 1).bind fun m62 =>
   (newB m62.2 1 [.int .i64 x11]).bind fun h63 =>
   (rng h63.2 h63.1 0 (1 * 1)).bind fun l64 =>
   (appB h63.2 1 8 x15 l64 1).bind fun m65 =>
   (ixA x10 n56 1).bind fun o66 =>
   (putR m65.2 x10.b o66 [.int .i64 x11]).bind fun H67 =>
   C (.loop F.iCircuitNetwork 2) [.sc (.sl x10), .sc (.int .i64 (IntKind.wrap .i64 (x11 + 1))), .sc (.sl m62.1), .sc (.sl m65.1), .sc (.sl x95), .sc (.int .i64 x96), .sc (.int .i64 (IntKind.wrap .i64 (x97 + 1)))] H67)
  (some ⟨6, [.sc (.int .i64 x11), .sc (.sl x14), .sc (.sl x15)], H⟩) := by kernel_rfl
theorem e_iCircuitNetwork_3 (C : Oracle) (x131 : Sl) (x132 x133 : Int) (y18_0 y18_1 y18_2 : Sl) (H : AH) : (procM P T C (.loop F.iCircuitNetwork 3) [.sc (.sl x131), .sc (.int .i64 x132), .sc (.int .i64 x133), .agg [.sl y18_0, .sl y18_1, .sl y18_2]] H).run =
  cond (decide (x133 < x132))
  ((ixA x131 x133 1).bind fun o88 =>
   (rdB H x131.b).bind fun c89 =>
   (slAt c89 o88).bind fun s90 =>
   (rng H s90.b s90.o (s90.n * 1)).bind fun l91 =>
   (appB H 1 8 y18_2 l91 s90.n).bind fun m92 =>
   C (.loop F.iCircuitNetwork 3) [.sc (.sl x131), .sc (.int .i64 x132), .sc (.int .i64 (IntKind.wrap .i64 (x133 + 1))), .agg [.sl y18_0, .sl y18_1, .sl m92.1]] m92.2)
  (some ⟨8, [.agg [.sl y18_0, .sl y18_1, .sl y18_2]], H⟩) := by kernel_rfl
theorem e_iCircuitNetwork (C : Oracle) (a0_0 a0_1 : Int) (a0_2 : Sl) (a1 : Int) (H : AH) : (procM P T C (.fn F.iCircuitNetwork) [.agg [.int .i64 a0_0, .int .i64 a0_1, .sl a0_2], .sc (.int .i64 a1)] H).run =
  (C (.fn F.iCircuitOk) [.agg [.int .i64 a0_0, .int .i64 a0_1, .sl a0_2]] H).bind fun r1 =>
  (oneP r1.vs).bind fun p2 =>
  p2.sc?.bind fun c3 =>
  (boolAt [c3] 0).bind fun b4 =>
  cond (!b4)
  (some ⟨1, [.agg [.int .i64 0, .int .i64 0, .int .i64 0, .sl ⟨0, 0, 0, 0, true⟩, .sl ⟨0, 0, 0, 0, true⟩], .sc (.bool false)], r1.H⟩)
  (cond (decide (a1 < 0))
   (some ⟨1, [.agg [.int .i64 0, .int .i64 0, .int .i64 0, .sl ⟨0, 0, 0, 0, true⟩, .sl ⟨0, 0, 0, 0, true⟩], .sc (.bool false)], r1.H⟩)
   (cond (decide (a0_1 < 0))
    (none)
    (cond (decide (a1 ≥ (shlL .i64 1 a0_1)))
     (some ⟨1, [.agg [.int .i64 0, .int .i64 0, .int .i64 0, .sl ⟨0, 0, 0, 0, true⟩, .sl ⟨0, 0, 0, 0, true⟩], .sc (.bool false)], r1.H⟩)
     (cond (decide ((IntKind.wrap .i64 (a0_1 + (a0_2.n : Int))) > 12))
      (some ⟨1, [.agg [.int .i64 0, .int .i64 0, .int .i64 0, .sl ⟨0, 0, 0, 0, true⟩, .sl ⟨0, 0, 0, 0, true⟩], .sc (.bool false)], r1.H⟩)
      ((C (.fn F.iomegaRing) [.sc (.int .i64 a0_0)] r1.H).bind fun r5 =>
       (oneP r5.vs).bind fun p6 =>
       p6.agg?.bind fun l7 =>
       cond (decide (l7.length = 3))
       ((intAt .i64 l7 0).bind fun n8 =>
        (intAt .i64 l7 1).bind fun n9 =>
        (intAt .i64 l7 2).bind fun n10 =>
        (mkAt (reserve r5.H 1) (r5.H.length + 0) 1 8 [.int .i64 0] 4 4).bind fun m11 =>
        (C (.fn F.irootElem) [.sc (.int .i64 a0_0), .sc (.int .i64 0)] (m11.2.set (r5.H.length + 0) deadB)).bind fun r12 =>
        (oneP r12.vs).bind fun p13 =>
        p13.sc?.bind fun c14 =>
        (slAt [c14] 0).bind fun s15 =>
        cond (decide (r12.H.length ≥ m11.2.length))
        ((C (.loop F.iCircuitNetwork 0) [.sc (.int .i64 a1), .sc (.sl m11.1), .sc (.sl s15), .sc (.int .i64 0), .agg [.int .i64 a0_0, .int .i64 a0_1, .sl a0_2], .agg [.int .i64 n8, .int .i64 n9, .int .i64 n10, .sl ⟨0, 0, 0, 0, true⟩, .sl ⟨0, 0, 0, 0, true⟩]] (restB m11.2 r12.H (r5.H.length + 0))).bind fun r34 =>
         cond (Nat.beq r34.e 2)
         (((nthP r34.vs 0).bind PV.agg?).bind fun l35 =>
          cond (decide (l35.length = 5))
          ((intAt .i64 l35 0).bind fun n36 =>
           (intAt .i64 l35 1).bind fun n37 =>
           (intAt .i64 l35 2).bind fun n38 =>
           (slAt l35 3).bind fun s39 =>
           (slAt l35 4).bind fun s40 =>
           (C (.fn F.ifirstLabels) [.sc (.int .i64 a0_1)] r34.H).bind fun r41 =>
           (oneP r41.vs).bind fun p42 =>
           p42.sc?.bind fun c43 =>
           (slAt [c43] 0).bind fun s44 =>
           (C (.loop F.iCircuitNetwork 1) [.sc (.sl s44), .sc (.int .i64 a0_1), .sc (.sl a0_2), .sc (.int .i64 (a0_2.n : Int)), .sc (.int .i64 0), .agg [.int .i64 a0_0, .int .i64 a0_1, .sl a0_2], .agg [.int .i64 n36, .int .i64 n37, .int .i64 n38, .sl s39, .sl s40]] r41.H).bind fun r101 =>
           cond (Nat.beq r101.e 4)
           (((nthP r101.vs 0).bind PV.agg?).bind fun l102 =>
            cond (decide (l102.length = 5))
            ((intAt .i64 l102 0).bind fun n103 =>
             (intAt .i64 l102 1).bind fun n104 =>
             (intAt .i64 l102 2).bind fun n105 =>
             (slAt l102 3).bind fun s106 =>
             (slAt l102 4).bind fun s107 =>
             (C (.fn F.iNetworkOk) [.agg [.int .i64 n103, .int .i64 n104, .int .i64 n105, .sl s106, .sl s44]] r101.H).bind fun r108 =>
             (oneP r108.vs).bind fun p109 =>
             p109.sc?.bind fun c110 =>
             (boolAt [c110] 0).bind fun b111 =>
             cond (!b111)
             (some ⟨1, [.agg [.int .i64 0, .int .i64 0, .int .i64 0, .sl ⟨0, 0, 0, 0, true⟩, .sl ⟨0, 0, 0, 0, true⟩], .sc (.bool false)], r108.H⟩)
             (some ⟨1, [.agg [.int .i64 n103, .int .i64 n104, .int .i64 n105, .sl s106, .sl s44], .sc (.bool true)], r108.H⟩))
            (none))
           (none))
          (none))
         (none))
        (none))
       (none)))))) := by kernel_rfl
/- loop.example/g03211/laws.eqCircuit -/
theorem e_weqCircuit (C : Oracle) (a0_0 a0_1 : Int) (a0_2 : Sl) (a1_0 a1_1 : Int) (a1_2 : Sl) (H : AH) : (procM P T C (.fn F.weqCircuit) [.agg [.int .i64 a0_0, .int .i64 a0_1, .sl a0_2], .agg [.int .i64 a1_0, .int .i64 a1_1, .sl a1_2]] H).run =
  cond (a0_0 != a1_0)
  (some ⟨1, [.sc (.bool false)], H⟩)
  (cond (a0_1 != a1_1)
   (some ⟨1, [.sc (.bool false)], H⟩)
   ((C (.fn F.weqGateS) [.sc (.sl a0_2), .sc (.sl a1_2)] H).bind fun r1 =>
    (oneP r1.vs).bind fun p2 =>
    p2.sc?.bind fun c3 =>
    (boolAt [c3] 0).bind fun b4 =>
    cond (!b4)
    (some ⟨1, [.sc (.bool false)], r1.H⟩)
    (some ⟨1, [.sc (.bool true)], r1.H⟩))) := by kernel_rfl
/- loop.example/g03211/laws.markCircuit -/
theorem e_wmarkCircuit (C : Oracle) (a0_0 a0_1 : Int) (a0_2 : Sl) (a1 : Int) (H : AH) : (procM P T C (.fn F.wmarkCircuit) [.agg [.int .i64 a0_0, .int .i64 a0_1, .sl a0_2], .sc (.int .i64 a1)] H).run =
  (C (.fn F.wmarkGateS) [.sc (.sl a0_2), .sc (.int .i64 a1)] H).bind fun r1 =>
  (oneP r1.vs).bind fun p2 =>
  p2.sc?.bind fun c3 =>
  (intAt .i64 [c3] 0).bind fun n4 =>
  some ⟨1, [.sc (.int .i64 n4)], r1.H⟩ := by kernel_rfl
/- loop.example/g03211/laws.szIntS -/
theorem e_wszIntS (C : Oracle) (a0 : Sl) (a1 : Int) (H : AH) : (procM P T C (.fn F.wszIntS) [.sc (.sl a0), .sc (.int .i64 a1)] H).run =
  cond (decide ((IntKind.wrap .i64 (a1 - (a0.n : Int))) < 0))
  (some ⟨1, [.sc (.int .i64 (-1))], H⟩)
  (some ⟨1, [.sc (.int .i64 (IntKind.wrap .i64 (a1 - (a0.n : Int))))], H⟩) := by kernel_rfl
/- loop.example/g03211/spec.l40Ring -/
theorem e_sl40Ring (C : Oracle) (a0 : Int) (H : AH) : (procM P T C (.fn F.sl40Ring) [.sc (.int .i64 a0)] H).run =
  some ⟨1, [.agg [.int .i64 8, .int .i64 a0, .int .i64 0]], H⟩ := by kernel_rfl
/- loop.example/g03211/spec.TensorOk -/
theorem e_sTensorOk_0 (C : Oracle) (x28 : Sl) (x29 x30 y2_0 y2_1 y2_2 : Int) (H : AH) : (procM P T C (.loop F.sTensorOk 0) [.sc (.sl x28), .sc (.int .i64 x29), .sc (.int .i64 x30), .agg [.int .i64 y2_0, .int .i64 y2_1, .int .i64 y2_2]] H).run =
  cond (decide (x30 < x29))
  ((ixA x28 x30 1).bind fun o13 =>
   (rdB H x28.b).bind fun c14 =>
   (intAt .i64 c14 o13).bind fun n15 =>
   (C (.fn F.sl02Top) [.agg [.int .i64 y2_0, .int .i64 y2_1, .int .i64 y2_2]] H).bind fun r16 =>
   (oneP r16.vs).bind fun p17 =>
   p17.sc?.bind fun c18 =>
   (intAt .i64 [c18] 0).bind fun n19 =>
   (C (.fn F.sl01In) [.sc (.int .i64 n15), .sc (.int .i64 0), .sc (.int .i64 n19)] r16.H).bind fun r20 =>
   (oneP r20.vs).bind fun p21 =>
   p21.sc?.bind fun c22 =>
   (boolAt [c22] 0).bind fun b23 =>
   cond (!b23)
   (some ⟨1, [.sc (.bool false)], r20.H⟩)
   (C (.loop F.sTensorOk 0) [.sc (.sl x28), .sc (.int .i64 x29), .sc (.int .i64 (IntKind.wrap .i64 (x30 + 1))), .agg [.int .i64 y2_0, .int .i64 y2_1, .int .i64 y2_2]] r20.H))
  (some ⟨2, [], H⟩) := by kernel_rfl
theorem e_sTensorOk (C : Oracle) (a0_0 a0_1 a0_2 : Int) (a1_0 a1_1 a1_2 : Sl) (H : AH) : (procM P T C (.fn F.sTensorOk) [.agg [.int .i64 a0_0, .int .i64 a0_1, .int .i64 a0_2], .agg [.sl a1_0, .sl a1_1, .sl a1_2]] H).run =
  (C (.fn F.sTensorSize) [.agg [.sl a1_0, .sl a1_1, .sl a1_2]] H).bind fun r1 =>
  (oneP r1.vs).bind fun p2 =>
  p2.sc?.bind fun c3 =>
  (intAt .i64 [c3] 0).bind fun n4 =>
  (C (.fn F.sRingOk) [.agg [.int .i64 a0_0, .int .i64 a0_1, .int .i64 a0_2]] r1.H).bind fun r5 =>
  (oneP r5.vs).bind fun p6 =>
  p6.sc?.bind fun c7 =>
  (boolAt [c7] 0).bind fun b8 =>
  cond (!b8)
  (some ⟨1, [.sc (.bool false)], r5.H⟩)
  (cond (decide (n4 < 0))
   (some ⟨1, [.sc (.bool false)], r5.H⟩)
   ((C (.fn F.sl02Width) [.agg [.int .i64 a0_0, .int .i64 a0_1, .int .i64 a0_2]] r5.H).bind fun r9 =>
    (oneP r9.vs).bind fun p10 =>
    p10.sc?.bind fun c11 =>
    (intAt .i64 [c11] 0).bind fun n12 =>
    cond ((a1_2.n : Int) != (IntKind.wrap .i64 (n4 * n12)))
    (some ⟨1, [.sc (.bool false)], r9.H⟩)
    ((C (.loop F.sTensorOk 0) [.sc (.sl a1_2), .sc (.int .i64 (a1_2.n : Int)), .sc (.int .i64 0), .agg [.int .i64 a0_0, .int .i64 a0_1, .int .i64 a0_2]] r9.H).bind fun r24 =>
     cond (Nat.beq r24.e 1)
     ((nthP r24.vs 0).bind fun p25 =>
      p25.sc?.bind fun c26 =>
      (boolAt [c26] 0).bind fun b27 =>
      some ⟨1, [.sc (.bool b27)], r24.H⟩)
     (cond (Nat.beq r24.e 2)
      (some ⟨1, [.sc (.bool true)], r24.H⟩)
      (none))))) := by kernel_rfl
/- loop.example/g03211/spec.l06Equal -/
theorem e_sl06Equal_0 (C : Oracle) (x1 x7 : Sl) (x8 x9 : Int) (H : AH) : (procM P T C (.loop F.sl06Equal 0) [.sc (.sl x1), .sc (.sl x7), .sc (.int .i64 x8), .sc (.int .i64 x9)] H).run =
  cond (decide (x9 < x8))
  ((ixA x7 x9 1).bind fun o1 =>
   (rdB H x7.b).bind fun c2 =>
   (intAt .i64 c2 o1).bind fun n3 =>
   cond (decide (x9 ≥ (x1.n : Int)))
   (some ⟨1, [.sc (.bool false)], H⟩)
   ((ixA x1 x9 1).bind fun o4 =>
    (rdB H x1.b).bind fun c5 =>
    (intAt .i64 c5 o4).bind fun n6 =>
    cond (n6 != n3)
    (some ⟨1, [.sc (.bool false)], H⟩)
    (C (.loop F.sl06Equal 0) [.sc (.sl x1), .sc (.sl x7), .sc (.int .i64 x8), .sc (.int .i64 (IntKind.wrap .i64 (x9 + 1)))] H)))
  (some ⟨2, [], H⟩) := by kernel_rfl
theorem e_sl06Equal (C : Oracle) (a0 a1 : Sl) (H : AH) : (procM P T C (.fn F.sl06Equal) [.sc (.sl a0), .sc (.sl a1)] H).run =
  (C (.loop F.sl06Equal 0) [.sc (.sl a1), .sc (.sl a0), .sc (.int .i64 (a0.n : Int)), .sc (.int .i64 0)] H).bind fun r7 =>
  cond (Nat.beq r7.e 1)
  ((nthP r7.vs 0).bind fun p8 =>
   p8.sc?.bind fun c9 =>
   (boolAt [c9] 0).bind fun b10 =>
   some ⟨1, [.sc (.bool b10)], r7.H⟩)
  (cond (Nat.beq r7.e 2)
   (some ⟨1, [.sc (.bool ((a0.n : Int) == (a1.n : Int)))], r7.H⟩)
   (none)) := by kernel_rfl
/- loop.example/g03211/spec.l05Index -/
theorem e_sl05Index_0 (C : Oracle) (x0 : Sl) (x1 : Int) (x5 : Sl) (x6 : Int) (H : AH) : (procM P T C (.loop F.sl05Index 0) [.sc (.sl x0), .sc (.int .i64 x1), .sc (.sl x5), .sc (.int .i64 x6)] H).run =
  cond (decide (x6 ≥ 0))
  ((ixA x0 x6 1).bind fun o2 =>
   (rdB H x0.b).bind fun c3 =>
   (intAt .i64 c3 o2).bind fun n4 =>
   cond (n4 == 0)
   (none)
   ((ixA x5 x6 1).bind fun o5 =>
    (putR H x5.b o5 [.int .i64 (Int.tmod x1 n4)]).bind fun H6 =>
    (ixA x0 x6 1).bind fun o7 =>
    (rdB H6 x0.b).bind fun c8 =>
    (intAt .i64 c8 o7).bind fun n9 =>
    cond (n9 == 0)
    (none)
    (C (.loop F.sl05Index 0) [.sc (.sl x0), .sc (.int .i64 (IntKind.wrap .i64 (Int.tdiv x1 n9))), .sc (.sl x5), .sc (.int .i64 (IntKind.wrap .i64 (x6 - 1)))] H6)))
  (some ⟨2, [], H⟩) := by kernel_rfl
theorem e_sl05Index (C : Oracle) (a0 : Sl) (a1 : Int) (H : AH) : (procM P T C (.fn F.sl05Index) [.sc (.sl a0), .sc (.int .i64 a1)] H).run =
  (mkB H 1 8 [.int .i64 0] (a0.n : Int) (a0.n : Int)).bind fun m1 =>
  (C (.loop F.sl05Index 0) [.sc (.sl a0), .sc (.int .i64 a1), .sc (.sl m1.1), .sc (.int .i64 (IntKind.wrap .i64 ((a0.n : Int) - 1)))] m1.2).bind fun r10 =>
  cond (Nat.beq r10.e 2)
  (some ⟨1, [.sc (.sl m1.1)], r10.H⟩)
  (none) := by kernel_rfl
/- loop.example/g03211/spec.l05Put -/
theorem e_sl05Put_0 (C : Oracle) (x2 : Int) (x3 : Sl) (x8 x13 x14 : Int) (y5_0 y5_1 y5_2 : Sl) (H : AH) : (procM P T C (.loop F.sl05Put 0) [.sc (.int .i64 x2), .sc (.sl x3), .sc (.int .i64 x8), .sc (.int .i64 x13), .sc (.int .i64 x14), .agg [.sl y5_0, .sl y5_1, .sl y5_2]] H).run =
  cond (decide (x14 < x13))
  ((ixA x3 x14 1).bind fun o5 =>
   (rdB H x3.b).bind fun c6 =>
   (intAt .i64 c6 o5).bind fun n7 =>
   (ixA y5_2 (IntKind.wrap .i64 ((IntKind.wrap .i64 (x2 * x8)) + x14)) 1).bind fun o8 =>
   (putR H y5_2.b o8 [.int .i64 n7]).bind fun H9 =>
   C (.loop F.sl05Put 0) [.sc (.int .i64 x2), .sc (.sl x3), .sc (.int .i64 x8), .sc (.int .i64 x13), .sc (.int .i64 (IntKind.wrap .i64 (x14 + 1))), .agg [.sl y5_0, .sl y5_1, .sl y5_2]] H9)
  (some ⟨2, [], H⟩) := by kernel_rfl
theorem e_sl05Put (C : Oracle) (a0_0 a0_1 a0_2 : Int) (a1_0 a1_1 a1_2 : Sl) (a2 : Int) (a3 : Sl) (H : AH) : (procM P T C (.fn F.sl05Put) [.agg [.int .i64 a0_0, .int .i64 a0_1, .int .i64 a0_2], .agg [.sl a1_0, .sl a1_1, .sl a1_2], .sc (.int .i64 a2), .sc (.sl a3)] H).run =
  (C (.fn F.sl02Width) [.agg [.int .i64 a0_0, .int .i64 a0_1, .int .i64 a0_2]] H).bind fun r1 =>
  (oneP r1.vs).bind fun p2 =>
  p2.sc?.bind fun c3 =>
  (intAt .i64 [c3] 0).bind fun n4 =>
  (C (.loop F.sl05Put 0) [.sc (.int .i64 a2), .sc (.sl a3), .sc (.int .i64 n4), .sc (.int .i64 (a3.n : Int)), .sc (.int .i64 0), .agg [.sl a1_0, .sl a1_1, .sl a1_2]] r1.H).bind fun r10 =>
  cond (Nat.beq r10.e 2)
  (some ⟨1, [], r10.H⟩)
  (none) := by kernel_rfl
/- loop.example/g03211/laws.toIntS -/
theorem e_wtoIntS_0 (C : Oracle) (x0 x3 : Sl) (x4 : Int) (H : AH) : (procM P T C (.loop F.wtoIntS 0) [.sc (.sl x0), .sc (.sl x3), .sc (.int .i64 x4)] H).run =
  cond (decide (x4 < (x0.n : Int)))
  ((ixA x0 x4 1).bind fun o2 =>
   (rdB H x0.b).bind fun c3 =>
   (intAt .i64 c3 o2).bind fun n4 =>
   (ixA x3 x4 1).bind fun o5 =>
   (putR H x3.b o5 [.int .i64 n4]).bind fun H6 =>
   C (.loop F.wtoIntS 0) [.sc (.sl x0), .sc (.sl x3), .sc (.int .i64 (IntKind.wrap .i64 (x4 + 1)))] H6)
  (some ⟨2, [], H⟩) := by kernel_rfl
theorem e_wtoIntS (C : Oracle) (a0 : Sl) (H : AH) : (procM P T C (.fn F.wtoIntS) [.sc (.sl a0)] H).run =
  (mkB H 1 8 [.int .i64 0] (a0.n : Int) (a0.n : Int)).bind fun m1 =>
  (C (.loop F.wtoIntS 0) [.sc (.sl a0), .sc (.sl m1.1), .sc (.int .i64 0)] m1.2).bind fun r7 =>
  cond (Nat.beq r7.e 2)
  (some ⟨1, [.sc (.sl m1.1)], r7.H⟩)
  (none) := by kernel_rfl
/- loop.example/g03211/impl.rootElem -/
theorem e_irootElem (C : Oracle) (a0 a1 : Int) (H : AH) : (procM P T C (.fn F.irootElem) [.sc (.int .i64 a0), .sc (.int .i64 a1)] H).run =
  (mkB H 1 8 [.int .i64 0] 4 4).bind fun m1 =>
  cond (decide (a1 < 4))
  ((ixA m1.1 a1 1).bind fun o2 =>
   (putR m1.2 m1.1.b o2 [.int .i64 1]).bind fun H3 =>
   some ⟨1, [.sc (.sl m1.1)], H3⟩)
  ((ixA m1.1 (IntKind.wrap .i64 (a1 - 4)) 1).bind fun o4 =>
   (putR m1.2 m1.1.b o4 [.int .i64 (IntKind.wrap .i64 (a0 - 1))]).bind fun H5 =>
   some ⟨1, [.sc (.sl m1.1)], H5⟩) := by kernel_rfl
/- loop.example/g03211/impl.gateMatrix -/
theorem e_igateMatrix_0 (C : Oracle) (x5 : Int) (x6 x7 x8 : Sl) (x25 x26 : Int) (H : AH) : (procM P T C (.loop F.igateMatrix 0) [.sc (.int .i64 x5), .sc (.sl x6), .sc (.sl x7), .sc (.sl x8), .sc (.int .i64 x25), .sc (.int .i64 x26)] H).run =
  cond (decide (x26 < x25))
  ((ixA x8 x26 1).bind fun o11 =>
   (putR H x8.b o11 [.sl x6]).bind fun H12 =>
   cond (x5 == 0)
   (none)
   (cond (x5 == 0)
    (none)
    (cond ((IntKind.wrap .i64 (Int.tdiv x26 x5)) == (Int.tmod x26 x5))
     ((ixA x8 x26 1).bind fun o13 =>
      (putR H12 x8.b o13 [.sl x7]).bind fun H14 =>
      C (.loop F.igateMatrix 0) [.sc (.int .i64 x5), .sc (.sl x6), .sc (.sl x7), .sc (.sl x8), .sc (.int .i64 x25), .sc (.int .i64 (IntKind.wrap .i64 (x26 + 1)))] H14)
     (C (.loop F.igateMatrix 0) [.sc (.int .i64 x5), .sc (.sl x6), .sc (.sl x7), .sc (.sl x8), .sc (.int .i64 x25), .sc (.int .i64 (IntKind.wrap .i64 (x26 + 1)))] H12))))
  (some ⟨2, [], H⟩) := by kernel_rfl
theorem e_igateMatrix (C : Oracle) (a0 a1 : Int) (H : AH) : (procM P T C (.fn F.igateMatrix) [.sc (.int .i64 a0), .sc (.int .i64 a1)] H).run =
  ((cond (decide (a1 ≥ 8))
   (some ⟨0, [.sc (.int .i64 4)], H⟩)
   (some ⟨0, [.sc (.int .i64 2)], H⟩) : Option Out)).bind fun r1 =>
  cond (Nat.beq r1.e 0)
  ((nthP r1.vs 0).bind fun p2 =>
   p2.sc?.bind fun c3 =>
   (intAt .i64 [c3] 0).bind fun n4 =>
   (mkAt (reserve r1.H 1) (r1.H.length + 0) 1 8 [.int .i64 0] 4 4).bind fun m5 =>
   (C (.fn F.irootElem) [.sc (.int .i64 a0), .sc (.int .i64 0)] (m5.2.set (r1.H.length + 0) deadB)).bind fun r6 =>
   (oneP r6.vs).bind fun p7 =>
   p7.sc?.bind fun c8 =>
   (slAt [c8] 0).bind fun s9 =>
   cond (decide (r6.H.length ≥ m5.2.length))
   ((mkB (restB m5.2 r6.H (r1.H.length + 0)) 1 24 [.sl ⟨0, 0, 0, 0, true⟩] (IntKind.wrap .i64 (n4 * n4)) (IntKind.wrap .i64 (n4 * n4))).bind fun m10 =>
    (C (.loop F.igateMatrix 0) [.sc (.int .i64 n4), .sc (.sl m5.1), .sc (.sl s9), .sc (.sl m10.1), .sc (.int .i64 (m10.1.n : Int)), .sc (.int .i64 0)] m10.2).bind fun r15 =>
    cond (Nat.beq r15.e 2)
    ((C (.fn F.iphaseOf) [.sc (.int .i64 a1)] r15.H).bind fun r16 =>
     (lenP r16.vs 2).bind fun _ =>
     (nthP r16.vs 0).bind fun p17 =>
     p17.sc?.bind fun c18 =>
     (intAt .i64 [c18] 0).bind fun n19 =>
     (nthP r16.vs 1).bind fun p20 =>
     p20.sc?.bind fun c21 =>
     (boolAt [c21] 0).bind fun b22 =>
     cond b22
     ((C (.fn F.irootElem) [.sc (.int .i64 a0), .sc (.int .i64 n19)] r16.H).bind fun r23 =>
      (oneP r23.vs).bind fun p24 =>
      p24.sc?.bind fun c25 =>
      (slAt [c25] 0).bind fun s26 =>
      (ixA m10.1 (IntKind.wrap .i64 ((IntKind.wrap .i64 (n4 * n4)) - 1)) 1).bind fun o27 =>
      (putR r23.H m10.1.b o27 [.sl s26]).bind fun H28 =>
      some ⟨1, [.sc (.sl m10.1)], H28⟩)
     (cond (a1 == 1)
      ((newB r16.H 1 [.sl m5.1, .sl s9, .sl s9, .sl m5.1]).bind fun h29 =>
       some ⟨1, [.sc (.sl ⟨h29.1, 0, 4, 4, true⟩)], h29.2⟩)
      (cond (a1 == 5)
       ((C (.fn F.irawInverse) [.sc (.int .i64 a0), .sc (.int .i64 2)] r16.H).bind fun r30 =>
        (oneP r30.vs).bind fun p31 =>
        p31.sc?.bind fun c32 =>
        (intAt .i64 [c32] 0).bind fun n33 =>
        (newB r30.H 1 [.int .i64 0, .int .i64 n33, .int .i64 0, .int .i64 (IntKind.wrap .i64 (a0 - n33))]).bind fun h34 =>
        (newB h34.2 1 [.int .i64 0, .int .i64 (IntKind.wrap .i64 (a0 - n33)), .int .i64 0, .int .i64 n33]).bind fun h35 =>
        (newB h35.2 1 [.sl ⟨h34.1, 0, 4, 4, true⟩, .sl ⟨h34.1, 0, 4, 4, true⟩, .sl ⟨h34.1, 0, 4, 4, true⟩, .sl ⟨h35.1, 0, 4, 4, true⟩]).bind fun h36 =>
        some ⟨1, [.sc (.sl ⟨h36.1, 0, 4, 4, true⟩)], h36.2⟩)
       ((ixA m10.1 10 1).bind fun o37 =>
        (putR r16.H m10.1.b o37 [.sl m5.1]).bind fun H38 =>
        (ixA m10.1 11 1).bind fun o39 =>
        (putR H38 m10.1.b o39 [.sl s9]).bind fun H40 =>
        (ixA m10.1 14 1).bind fun o41 =>
        (putR H40 m10.1.b o41 [.sl s9]).bind fun H42 =>
        (ixA m10.1 15 1).bind fun o43 =>
        (putR H42 m10.1.b o43 [.sl m5.1]).bind fun H44 =>
        some ⟨1, [.sc (.sl m10.1)], H44⟩))))
    (none))
   (none))
  (none) := by kernel_rfl
/- loop.example/g03211/impl.omegaRing -/
theorem e_iomegaRing (C : Oracle) (a0 : Int) (H : AH) : (procM P T C (.fn F.iomegaRing) [.sc (.int .i64 a0)] H).run =
  some ⟨1, [.agg [.int .i64 8, .int .i64 a0, .int .i64 0]], H⟩ := by kernel_rfl
/- loop.example/g03211/laws.eqIntS -/
theorem e_weqIntS_0 (C : Oracle) (x0 x1 : Sl) (x5 : Int) (H : AH) : (procM P T C (.loop F.weqIntS 0) [.sc (.sl x0), .sc (.sl x1), .sc (.int .i64 x5)] H).run =
  cond (decide (x5 < (x0.n : Int)))
  ((ixA x0 x5 1).bind fun o1 =>
   (rdB H x0.b).bind fun c2 =>
   (intAt .i64 c2 o1).bind fun n3 =>
   (ixA x1 x5 1).bind fun o4 =>
   (rdB H x1.b).bind fun c5 =>
   (intAt .i64 c5 o4).bind fun n6 =>
   cond (n3 != n6)
   (some ⟨1, [.sc (.bool false)], H⟩)
   (C (.loop F.weqIntS 0) [.sc (.sl x0), .sc (.sl x1), .sc (.int .i64 (IntKind.wrap .i64 (x5 + 1)))] H))
  (some ⟨2, [], H⟩) := by kernel_rfl
theorem e_weqIntS (C : Oracle) (a0 a1 : Sl) (H : AH) : (procM P T C (.fn F.weqIntS) [.sc (.sl a0), .sc (.sl a1)] H).run =
  cond ((a0.n : Int) != (a1.n : Int))
  (some ⟨1, [.sc (.bool false)], H⟩)
  ((C (.loop F.weqIntS 0) [.sc (.sl a0), .sc (.sl a1), .sc (.int .i64 0)] H).bind fun r7 =>
   cond (Nat.beq r7.e 1)
   ((nthP r7.vs 0).bind fun p8 =>
    p8.sc?.bind fun c9 =>
    (boolAt [c9] 0).bind fun b10 =>
    some ⟨1, [.sc (.bool b10)], r7.H⟩)
   (cond (Nat.beq r7.e 2)
    (some ⟨1, [.sc (.bool true)], r7.H⟩)
    (none))) := by kernel_rfl
/- loop.example/g03211/laws.markIntS -/
theorem e_wmarkIntS_0 (C : Oracle) (x0 : Sl) (x1 x5 : Int) (H : AH) : (procM P T C (.loop F.wmarkIntS 0) [.sc (.sl x0), .sc (.int .i64 x1), .sc (.int .i64 x5)] H).run =
  cond (decide (x5 < (x0.n : Int)))
  ((ixA x0 x5 1).bind fun o1 =>
   (putR H x0.b o1 [.int .i64 x1]).bind fun H2 =>
   C (.loop F.wmarkIntS 0) [.sc (.sl x0), .sc (.int .i64 (IntKind.wrap .i64 (x1 + 1))), .sc (.int .i64 (IntKind.wrap .i64 (x5 + 1)))] H2)
  (some ⟨2, [.sc (.int .i64 x1)], H⟩) := by kernel_rfl
theorem e_wmarkIntS (C : Oracle) (a0 : Sl) (a1 : Int) (H : AH) : (procM P T C (.fn F.wmarkIntS) [.sc (.sl a0), .sc (.int .i64 a1)] H).run =
  (C (.loop F.wmarkIntS 0) [.sc (.sl a0), .sc (.int .i64 a1), .sc (.int .i64 0)] H).bind fun r3 =>
  cond (Nat.beq r3.e 2)
  ((nthP r3.vs 0).bind fun p4 =>
   p4.sc?.bind fun c5 =>
   (intAt .i64 [c5] 0).bind fun n6 =>
   some ⟨1, [.sc (.int .i64 n6)], r3.H⟩)
  (none) := by kernel_rfl
/- loop.example/g03211/laws.heldIntS -/
theorem e_wheldIntS_0 (C : Oracle) (x0 : Sl) (x1 x5 : Int) (H : AH) : (procM P T C (.loop F.wheldIntS 0) [.sc (.sl x0), .sc (.int .i64 x1), .sc (.int .i64 x5)] H).run =
  cond (decide (x5 < (x0.n : Int)))
  ((ixA x0 x5 1).bind fun o1 =>
   (rdB H x0.b).bind fun c2 =>
   (intAt .i64 c2 o1).bind fun n3 =>
   cond (n3 != x1)
   (some ⟨1, [.sc (.int .i64 (-1))], H⟩)
   (C (.loop F.wheldIntS 0) [.sc (.sl x0), .sc (.int .i64 (IntKind.wrap .i64 (x1 + 1))), .sc (.int .i64 (IntKind.wrap .i64 (x5 + 1)))] H))
  (some ⟨2, [.sc (.int .i64 x1)], H⟩) := by kernel_rfl
theorem e_wheldIntS (C : Oracle) (a0 : Sl) (a1 : Int) (H : AH) : (procM P T C (.fn F.wheldIntS) [.sc (.sl a0), .sc (.int .i64 a1)] H).run =
  (C (.loop F.wheldIntS 0) [.sc (.sl a0), .sc (.int .i64 a1), .sc (.int .i64 0)] H).bind fun r4 =>
  cond (Nat.beq r4.e 1)
  ((nthP r4.vs 0).bind fun p5 =>
   p5.sc?.bind fun c6 =>
   (intAt .i64 [c6] 0).bind fun n7 =>
   some ⟨1, [.sc (.int .i64 n7)], r4.H⟩)
  (cond (Nat.beq r4.e 2)
   ((nthP r4.vs 0).bind fun p8 =>
    p8.sc?.bind fun c9 =>
    (intAt .i64 [c9] 0).bind fun n10 =>
    some ⟨1, [.sc (.int .i64 n10)], r4.H⟩)
   (none)) := by kernel_rfl
/- loop.example/g03211/laws.szIntSS -/
theorem e_wszIntSS_0 (C : Oracle) (x0 : Sl) (x1 x5 : Int) (H : AH) : (procM P T C (.loop F.wszIntSS 0) [.sc (.sl x0), .sc (.int .i64 x1), .sc (.int .i64 x5)] H).run =
  cond (decide (x5 < (x0.n : Int)))
  ((ixA x0 x5 1).bind fun o1 =>
   (rdB H x0.b).bind fun c2 =>
   (slAt c2 o1).bind fun s3 =>
   (C (.fn F.wszIntS) [.sc (.sl s3), .sc (.int .i64 x1)] H).bind fun r4 =>
   (oneP r4.vs).bind fun p5 =>
   p5.sc?.bind fun c6 =>
   (intAt .i64 [c6] 0).bind fun n7 =>
   cond (decide (n7 < 0))
   (some ⟨1, [.sc (.int .i64 (-1))], r4.H⟩)
   (C (.loop F.wszIntSS 0) [.sc (.sl x0), .sc (.int .i64 n7), .sc (.int .i64 (IntKind.wrap .i64 (x5 + 1)))] r4.H))
  (some ⟨2, [.sc (.int .i64 x1)], H⟩) := by kernel_rfl
theorem e_wszIntSS (C : Oracle) (a0 : Sl) (a1 : Int) (H : AH) : (procM P T C (.fn F.wszIntSS) [.sc (.sl a0), .sc (.int .i64 a1)] H).run =
  cond (decide ((IntKind.wrap .i64 (a1 - (a0.n : Int))) < 0))
  (some ⟨1, [.sc (.int .i64 (-1))], H⟩)
  ((C (.loop F.wszIntSS 0) [.sc (.sl a0), .sc (.int .i64 (IntKind.wrap .i64 (a1 - (a0.n : Int)))), .sc (.int .i64 0)] H).bind fun r8 =>
   cond (Nat.beq r8.e 1)
   ((nthP r8.vs 0).bind fun p9 =>
    p9.sc?.bind fun c10 =>
    (intAt .i64 [c10] 0).bind fun n11 =>
    some ⟨1, [.sc (.int .i64 n11)], r8.H⟩)
   (cond (Nat.beq r8.e 2)
    ((nthP r8.vs 0).bind fun p12 =>
     p12.sc?.bind fun c13 =>
     (intAt .i64 [c13] 0).bind fun n14 =>
     some ⟨1, [.sc (.int .i64 n14)], r8.H⟩)
    (none))) := by kernel_rfl
/- loop.example/g03211/spec.RingOk -/
theorem e_sRingOk (C : Oracle) (a0_0 a0_1 a0_2 : Int) (H : AH) : (procM P T C (.fn F.sRingOk) [.agg [.int .i64 a0_0, .int .i64 a0_1, .int .i64 a0_2]] H).run =
  cond (a0_0 == 1)
  (cond (a0_1 == 0)
   (some ⟨1, [.sc (.bool (a0_2 == 0))], H⟩)
   (some ⟨1, [.sc (.bool false)], H⟩))
  (cond (a0_0 == 2)
   ((C (.fn F.sIsPrime) [.sc (.int .i64 a0_1)] H).bind fun r1 =>
    (oneP r1.vs).bind fun p2 =>
    p2.sc?.bind fun c3 =>
    (boolAt [c3] 0).bind fun b4 =>
    cond b4
    (some ⟨1, [.sc (.bool (a0_2 == 0))], r1.H⟩)
    (some ⟨1, [.sc (.bool false)], r1.H⟩))
   (((cond (a0_0 == 3)
   (some ⟨0, [.sc (.bool (a0_0 == 3))], H⟩)
   (cond (a0_0 == 4)
    (some ⟨0, [.sc (.bool (a0_0 == 4))], H⟩)
    (some ⟨0, [.sc (.bool (a0_0 == 5))], H⟩)) : Option Out)).bind fun r5 =>
    cond (Nat.beq r5.e 0)
    ((nthP r5.vs 0).bind fun p6 =>
     p6.sc?.bind fun c7 =>
     (boolAt [c7] 0).bind fun b8 =>
     cond b8
     ((C (.fn F.sl01In) [.sc (.int .i64 a0_1), .sc (.int .i64 1), .sc (.int .i64 1000000)] r5.H).bind fun r9 =>
      (oneP r9.vs).bind fun p10 =>
      p10.sc?.bind fun c11 =>
      (boolAt [c11] 0).bind fun b12 =>
      cond b12
      (some ⟨1, [.sc (.bool (a0_2 == 0))], r9.H⟩)
      (some ⟨1, [.sc (.bool false)], r9.H⟩))
     (cond (a0_0 == 6)
      (cond (a0_1 == 0)
       ((C (.fn F.sl01In) [.sc (.int .i64 a0_2), .sc (.int .i64 1), .sc (.int .i64 20)] r5.H).bind fun r13 =>
        (oneP r13.vs).bind fun p14 =>
        p14.sc?.bind fun c15 =>
        (boolAt [c15] 0).bind fun b16 =>
        some ⟨1, [.sc (.bool b16)], r13.H⟩)
       (some ⟨1, [.sc (.bool false)], r5.H⟩))
      (cond (a0_0 == 7)
       ((C (.fn F.sIsPrime) [.sc (.int .i64 a0_1)] r5.H).bind fun r17 =>
        (oneP r17.vs).bind fun p18 =>
        p18.sc?.bind fun c19 =>
        (boolAt [c19] 0).bind fun b20 =>
        cond b20
        ((C (.fn F.sl01In) [.sc (.int .i64 a0_2), .sc (.int .i64 1), .sc (.int .i64 6)] r17.H).bind fun r21 =>
         (oneP r21.vs).bind fun p22 =>
         p22.sc?.bind fun c23 =>
         (boolAt [c23] 0).bind fun b24 =>
         some ⟨1, [.sc (.bool b24)], r21.H⟩)
        (some ⟨1, [.sc (.bool false)], r17.H⟩))
       (cond (a0_0 == 8)
        ((C (.fn F.sIsPrime) [.sc (.int .i64 a0_1)] r5.H).bind fun r25 =>
         (oneP r25.vs).bind fun p26 =>
         p26.sc?.bind fun c27 =>
         (boolAt [c27] 0).bind fun b28 =>
         cond b28
         (cond (decide (a0_1 > 2))
          (some ⟨1, [.sc (.bool (a0_2 == 0))], r25.H⟩)
          (some ⟨1, [.sc (.bool false)], r25.H⟩))
         (some ⟨1, [.sc (.bool false)], r25.H⟩))
        (some ⟨1, [.sc (.bool false)], r5.H⟩)))))
    (none))) := by kernel_rfl
/- loop.example/g03211/spec.CnfOk -/
theorem e_sCnfOk_0 (C : Oracle) (x18 : Sl) (x19 x20 y1_0 : Int) (y1_1 : Sl) (H : AH) : (procM P T C (.loop F.sCnfOk 0) [.sc (.sl x18), .sc (.int .i64 x19), .sc (.int .i64 x20), .agg [.int .i64 y1_0, .sl y1_1]] H).run =
  cond (decide (x20 < x19))
  ((ixA x18 x20 1).bind fun o5 =>
   (rdB H x18.b).bind fun c6 =>
   (slAt c6 o5).bind fun s7 =>
   cond (decide ((s7.n : Int) > 4))
   (some ⟨1, [.sc (.bool false)], H⟩)
   ((C (.loop F.sCnfOk 1) [.sc (.sl s7), .sc (.int .i64 (s7.n : Int)), .sc (.int .i64 0), .agg [.int .i64 y1_0, .sl y1_1]] H).bind fun r15 =>
    cond (Nat.beq r15.e 1)
    ((nthP r15.vs 0).bind fun p16 =>
     p16.sc?.bind fun c17 =>
     (boolAt [c17] 0).bind fun b18 =>
     some ⟨1, [.sc (.bool b18)], r15.H⟩)
    (cond (Nat.beq r15.e 4)
     (C (.loop F.sCnfOk 0) [.sc (.sl x18), .sc (.int .i64 x19), .sc (.int .i64 (IntKind.wrap .i64 (x20 + 1))), .agg [.int .i64 y1_0, .sl y1_1]] r15.H)
     (none))))
  (some ⟨2, [], H⟩) := by kernel_rfl
theorem e_sCnfOk_1 (C : Oracle) (x27 : Sl) (x28 x29 y1_0 : Int) (y1_1 : Sl) (H : AH) : (procM P T C (.loop F.sCnfOk 1) [.sc (.sl x27), .sc (.int .i64 x28), .sc (.int .i64 x29), .agg [.int .i64 y1_0, .sl y1_1]] H).run =
  cond (decide (x29 < x28))
  ((ixA x27 x29 1).bind fun o8 =>
   (rdB H x27.b).bind fun c9 =>
   (intAt .i64 c9 o8).bind fun n10 =>
   cond (n10 == 0)
   (some ⟨1, [.sc (.bool false)], H⟩)
   ((C (.fn F.sl01In) [.sc (.int .i64 n10), .sc (.int .i64 (IntKind.wrap .i64 (0 - y1_0))), .sc (.int .i64 y1_0)] H).bind fun r11 =>
    (oneP r11.vs).bind fun p12 =>
    p12.sc?.bind fun c13 =>
    (boolAt [c13] 0).bind fun b14 =>
    cond (!b14)
    (some ⟨1, [.sc (.bool false)], r11.H⟩)
    (C (.loop F.sCnfOk 1) [.sc (.sl x27), .sc (.int .i64 x28), .sc (.int .i64 (IntKind.wrap .i64 (x29 + 1))), .agg [.int .i64 y1_0, .sl y1_1]] r11.H)))
  (some ⟨4, [], H⟩) := by kernel_rfl
theorem e_sCnfOk (C : Oracle) (a0_0 : Int) (a0_1 : Sl) (H : AH) : (procM P T C (.fn F.sCnfOk) [.agg [.int .i64 a0_0, .sl a0_1]] H).run =
  (C (.fn F.sl01In) [.sc (.int .i64 a0_0), .sc (.int .i64 0), .sc (.int .i64 10)] H).bind fun r1 =>
  (oneP r1.vs).bind fun p2 =>
  p2.sc?.bind fun c3 =>
  (boolAt [c3] 0).bind fun b4 =>
  cond (!b4)
  (some ⟨1, [.sc (.bool false)], r1.H⟩)
  (cond (decide ((a0_1.n : Int) > 12))
   (some ⟨1, [.sc (.bool false)], r1.H⟩)
   ((C (.loop F.sCnfOk 0) [.sc (.sl a0_1), .sc (.int .i64 (a0_1.n : Int)), .sc (.int .i64 0), .agg [.int .i64 a0_0, .sl a0_1]] r1.H).bind fun r19 =>
    cond (Nat.beq r19.e 1)
    ((nthP r19.vs 0).bind fun p20 =>
     p20.sc?.bind fun c21 =>
     (boolAt [c21] 0).bind fun b22 =>
     some ⟨1, [.sc (.bool b22)], r19.H⟩)
    (cond (Nat.beq r19.e 2)
     (some ⟨1, [.sc (.bool true)], r19.H⟩)
     (none)))) := by kernel_rfl
/- loop.example/g03211/spec.l05Find -/
theorem e_sl05Find_0 (C : Oracle) (x1 : Int) (x7 : Sl) (x8 x9 : Int) (H : AH) : (procM P T C (.loop F.sl05Find 0) [.sc (.int .i64 x1), .sc (.sl x7), .sc (.int .i64 x8), .sc (.int .i64 x9)] H).run =
  cond (decide (x9 < x8))
  ((ixA x7 x9 1).bind fun o1 =>
   (rdB H x7.b).bind fun c2 =>
   (intAt .i64 c2 o1).bind fun n3 =>
   cond (n3 == x1)
   (some ⟨1, [.sc (.int .i64 x9)], H⟩)
   (C (.loop F.sl05Find 0) [.sc (.int .i64 x1), .sc (.sl x7), .sc (.int .i64 x8), .sc (.int .i64 (IntKind.wrap .i64 (x9 + 1)))] H))
  (some ⟨2, [], H⟩) := by kernel_rfl
theorem e_sl05Find (C : Oracle) (a0 : Sl) (a1 : Int) (H : AH) : (procM P T C (.fn F.sl05Find) [.sc (.sl a0), .sc (.int .i64 a1)] H).run =
  (C (.loop F.sl05Find 0) [.sc (.int .i64 a1), .sc (.sl a0), .sc (.int .i64 (a0.n : Int)), .sc (.int .i64 0)] H).bind fun r4 =>
  cond (Nat.beq r4.e 1)
  ((nthP r4.vs 0).bind fun p5 =>
   p5.sc?.bind fun c6 =>
   (intAt .i64 [c6] 0).bind fun n7 =>
   some ⟨1, [.sc (.int .i64 n7)], r4.H⟩)
  (cond (Nat.beq r4.e 2)
   (some ⟨1, [.sc (.int .i64 (-1))], r4.H⟩)
   (none)) := by kernel_rfl
/- loop.example/g03211/spec.l05Zero -/
theorem e_sl05Zero_0 (C : Oracle) (x8 y3_0 y3_1 y3_2 : Int) (y7_0 y7_1 y7_2 : Sl) (H : AH) : (procM P T C (.loop F.sl05Zero 0) [.sc (.int .i64 x8), .agg [.int .i64 y3_0, .int .i64 y3_1, .int .i64 y3_2], .agg [.sl y7_0, .sl y7_1, .sl y7_2]] H).run =
  cond (decide (x8 > 0))
  ((C (.fn F.sl02Zero) [.agg [.int .i64 y3_0, .int .i64 y3_1, .int .i64 y3_2]] H).bind fun r13 =>
   (oneP r13.vs).bind fun p14 =>
   p14.sc?.bind fun c15 =>
   (slAt [c15] 0).bind fun s16 =>
   (rng r13.H s16.b s16.o (s16.n * 1)).bind fun l17 =>
   (appB r13.H 1 8 y7_2 l17 s16.n).bind fun m18 =>
   C (.loop F.sl05Zero 0) [.sc (.int .i64 (IntKind.wrap .i64 (x8 - 1))), .agg [.int .i64 y3_0, .int .i64 y3_1, .int .i64 y3_2], .agg [.sl y7_0, .sl y7_1, .sl m18.1]] m18.2)
  (some ⟨2, [.agg [.sl y7_0, .sl y7_1, .sl y7_2]], H⟩) := by kernel_rfl
theorem e_sl05Zero (C : Oracle) (a0_0 a0_1 a0_2 : Int) (a1 a2 : Sl) (H : AH) : (procM P T C (.fn F.sl05Zero) [.agg [.int .i64 a0_0, .int .i64 a0_1, .int .i64 a0_2], .sc (.sl a1), .sc (.sl a2)] H).run =
  (C (.fn F.sl05Ints) [.sc (.sl a1)] H).bind fun r1 =>
  (oneP r1.vs).bind fun p2 =>
  p2.sc?.bind fun c3 =>
  (slAt [c3] 0).bind fun s4 =>
  (C (.fn F.sl05Ints) [.sc (.sl a2)] r1.H).bind fun r5 =>
  (oneP r5.vs).bind fun p6 =>
  p6.sc?.bind fun c7 =>
  (slAt [c7] 0).bind fun s8 =>
  (C (.fn F.sl05Product) [.sc (.sl a2), .sc (.int .i64 4096)] r5.H).bind fun r9 =>
  (oneP r9.vs).bind fun p10 =>
  p10.sc?.bind fun c11 =>
  (intAt .i64 [c11] 0).bind fun n12 =>
  (C (.loop F.sl05Zero 0) [.sc (.int .i64 n12), .agg [.int .i64 a0_0, .int .i64 a0_1, .int .i64 a0_2], .agg [.sl s4, .sl s8, .sl ⟨0, 0, 0, 0, true⟩]] r9.H).bind fun r19 =>
  cond (Nat.beq r19.e 2)
  (((nthP r19.vs 0).bind PV.agg?).bind fun l20 =>
   cond (decide (l20.length = 3))
   ((slAt l20 0).bind fun s21 =>
    (slAt l20 1).bind fun s22 =>
    (slAt l20 2).bind fun s23 =>
    some ⟨1, [.agg [.sl s21, .sl s22, .sl s23]], r19.H⟩)
   (none))
  (none) := by kernel_rfl
/- loop.example/g03211/spec.l05Product -/
theorem e_sl05Product_0 (C : Oracle) (x1 x5 : Int) (x8 : Sl) (x9 x10 : Int) (H : AH) : (procM P T C (.loop F.sl05Product 0) [.sc (.int .i64 x1), .sc (.int .i64 x5), .sc (.sl x8), .sc (.int .i64 x9), .sc (.int .i64 x10)] H).run =
  cond (decide (x10 < x9))
  ((ixA x8 x10 1).bind fun o1 =>
   (rdB H x8.b).bind fun c2 =>
   (intAt .i64 c2 o1).bind fun n3 =>
   C (.loop F.sl05Product 0) [.sc (.int .i64 x1), .sc (.int .i64 (if IntKind.wrap .i64 (x1 + 1) < IntKind.wrap .i64 (x5 * n3) then IntKind.wrap .i64 (x1 + 1) else IntKind.wrap .i64 (x5 * n3))), .sc (.sl x8), .sc (.int .i64 x9), .sc (.int .i64 (IntKind.wrap .i64 (x10 + 1)))] H)
  (some ⟨2, [.sc (.int .i64 x5)], H⟩) := by kernel_rfl
theorem e_sl05Product (C : Oracle) (a0 : Sl) (a1 : Int) (H : AH) : (procM P T C (.fn F.sl05Product) [.sc (.sl a0), .sc (.int .i64 a1)] H).run =
  (C (.loop F.sl05Product 0) [.sc (.int .i64 a1), .sc (.int .i64 1), .sc (.sl a0), .sc (.int .i64 (a0.n : Int)), .sc (.int .i64 0)] H).bind fun r4 =>
  cond (Nat.beq r4.e 2)
  ((nthP r4.vs 0).bind fun p5 =>
   p5.sc?.bind fun c6 =>
   (intAt .i64 [c6] 0).bind fun n7 =>
   some ⟨1, [.sc (.int .i64 n7)], r4.H⟩)
  (none) := by kernel_rfl
/- loop.example/g03211/spec.l38True -/
theorem e_sl38True_0 (C : Oracle) (x1 x7 : Sl) (x8 x9 : Int) (H : AH) : (procM P T C (.loop F.sl38True 0) [.sc (.sl x1), .sc (.sl x7), .sc (.int .i64 x8), .sc (.int .i64 x9)] H).run =
  cond (decide (x9 < x8))
  ((ixA x7 x9 1).bind fun o1 =>
   (rdB H x7.b).bind fun c2 =>
   (intAt .i64 c2 o1).bind fun n3 =>
   cond (decide (n3 > 0))
   ((ixA x1 (IntKind.wrap .i64 (n3 - 1)) 1).bind fun o4 =>
    (rdB H x1.b).bind fun c5 =>
    (intAt .i64 c5 o4).bind fun n6 =>
    cond (n6 == 1)
    (some ⟨1, [.sc (.bool true)], H⟩)
    (cond (decide (n3 < 0))
     ((ixA x1 (IntKind.wrap .i64 ((IntKind.wrap .i64 (0 - n3)) - 1)) 1).bind fun o7 =>
      (rdB H x1.b).bind fun c8 =>
      (intAt .i64 c8 o7).bind fun n9 =>
      cond (n9 == 0)
      (some ⟨1, [.sc (.bool true)], H⟩)
      (C (.loop F.sl38True 0) [.sc (.sl x1), .sc (.sl x7), .sc (.int .i64 x8), .sc (.int .i64 (IntKind.wrap .i64 (x9 + 1)))] H))
     (C (.loop F.sl38True 0) [.sc (.sl x1), .sc (.sl x7), .sc (.int .i64 x8), .sc (.int .i64 (IntKind.wrap .i64 (x9 + 1)))] H)))
   (cond (decide (n3 < 0))
    ((ixA x1 (IntKind.wrap .i64 ((IntKind.wrap .i64 (0 - n3)) - 1)) 1).bind fun o10 =>
     (rdB H x1.b).bind fun c11 =>
     (intAt .i64 c11 o10).bind fun n12 =>
     cond (n12 == 0)
     (some ⟨1, [.sc (.bool true)], H⟩)
     (C (.loop F.sl38True 0) [.sc (.sl x1), .sc (.sl x7), .sc (.int .i64 x8), .sc (.int .i64 (IntKind.wrap .i64 (x9 + 1)))] H))
    (C (.loop F.sl38True 0) [.sc (.sl x1), .sc (.sl x7), .sc (.int .i64 x8), .sc (.int .i64 (IntKind.wrap .i64 (x9 + 1)))] H)))
  (some ⟨2, [], H⟩) := by kernel_rfl
theorem e_sl38True (C : Oracle) (a0 a1 : Sl) (H : AH) : (procM P T C (.fn F.sl38True) [.sc (.sl a0), .sc (.sl a1)] H).run =
  (C (.loop F.sl38True 0) [.sc (.sl a1), .sc (.sl a0), .sc (.int .i64 (a0.n : Int)), .sc (.int .i64 0)] H).bind fun r13 =>
  cond (Nat.beq r13.e 1)
  ((nthP r13.vs 0).bind fun p14 =>
   p14.sc?.bind fun c15 =>
   (boolAt [c15] 0).bind fun b16 =>
   some ⟨1, [.sc (.bool b16)], r13.H⟩)
  (cond (Nat.beq r13.e 2)
   (some ⟨1, [.sc (.bool false)], r13.H⟩)
   (none)) := by kernel_rfl
/- loop.example/g03211/spec.l02One -/
theorem e_sl02One (C : Oracle) (a0_0 a0_1 a0_2 : Int) (H : AH) : (procM P T C (.fn F.sl02One) [.agg [.int .i64 a0_0, .int .i64 a0_1, .int .i64 a0_2]] H).run =
  (C (.fn F.sl02Width) [.agg [.int .i64 a0_0, .int .i64 a0_1, .int .i64 a0_2]] H).bind fun r1 =>
  (oneP r1.vs).bind fun p2 =>
  p2.sc?.bind fun c3 =>
  (intAt .i64 [c3] 0).bind fun n4 =>
  (mkB r1.H 1 8 [.int .i64 0] n4 n4).bind fun m5 =>
  ((cond (a0_0 == 5)
   (some ⟨0, [.sc (.bool (a0_0 == 5))], m5.2⟩)
   (some ⟨0, [.sc (.bool (a0_0 == 6))], m5.2⟩) : Option Out)).bind fun r6 =>
  cond (Nat.beq r6.e 0)
  ((nthP r6.vs 0).bind fun p7 =>
   p7.sc?.bind fun c8 =>
   (boolAt [c8] 0).bind fun b9 =>
   cond b9
   ((C (.fn F.sl02Top) [.agg [.int .i64 a0_0, .int .i64 a0_1, .int .i64 a0_2]] r6.H).bind fun r10 =>
    (oneP r10.vs).bind fun p11 =>
    p11.sc?.bind fun c12 =>
    (intAt .i64 [c12] 0).bind fun n13 =>
    (ixA m5.1 0 1).bind fun o14 =>
    (putR r10.H m5.1.b o14 [.int .i64 n13]).bind fun H15 =>
    some ⟨1, [.sc (.sl m5.1)], H15⟩)
   (cond (a0_0 == 4)
    ((ixA m5.1 0 1).bind fun o16 =>
     (putR r6.H m5.1.b o16 [.int .i64 0]).bind fun H17 =>
     some ⟨1, [.sc (.sl m5.1)], H17⟩)
    ((ixA m5.1 0 1).bind fun o18 =>
     (putR r6.H m5.1.b o18 [.int .i64 1]).bind fun H19 =>
     some ⟨1, [.sc (.sl m5.1)], H19⟩)))
  (none) := by kernel_rfl
/- loop.example/g03211/spec.l12Uses -/
theorem e_sl12Uses_0 (C : Oracle) (x1 : Int) (x5 x9 : Sl) (x10 x11 : Int) (H : AH) : (procM P T C (.loop F.sl12Uses 0) [.sc (.int .i64 x1), .sc (.sl x5), .sc (.sl x9), .sc (.int .i64 x10), .sc (.int .i64 x11)] H).run =
  cond (decide (x11 < x10))
  ((ixA x9 x11 3).bind fun o2 =>
   (rdB H x9.b).bind fun c3 =>
   (slAt c3 o2).bind fun s4 =>
   (slAt c3 (o2 + 1)).bind fun s5 =>
   (slAt c3 (o2 + 1 + 1)).bind fun s6 =>
   (C (.fn F.sl05Find) [.sc (.sl s4), .sc (.int .i64 x1)] H).bind fun r7 =>
   (oneP r7.vs).bind fun p8 =>
   p8.sc?.bind fun c9 =>
   (intAt .i64 [c9] 0).bind fun n10 =>
   cond (decide (n10 ≥ 0))
   ((newB r7.H 1 [.int .i64 x11]).bind fun h11 =>
    (rng h11.2 h11.1 0 (1 * 1)).bind fun l12 =>
    (appB h11.2 1 8 x5 l12 1).bind fun m13 =>
    C (.loop F.sl12Uses 0) [.sc (.int .i64 x1), .sc (.sl m13.1), .sc (.sl x9), .sc (.int .i64 x10), .sc (.int .i64 (IntKind.wrap .i64 (x11 + 1)))] m13.2)
   (C (.loop F.sl12Uses 0) [.sc (.int .i64 x1), .sc (.sl x5), .sc (.sl x9), .sc (.int .i64 x10), .sc (.int .i64 (IntKind.wrap .i64 (x11 + 1)))] r7.H))
  (some ⟨2, [.sc (.sl x5)], H⟩) := by kernel_rfl
theorem e_sl12Uses (C : Oracle) (a0 : Sl) (a1 : Int) (H : AH) : (procM P T C (.fn F.sl12Uses) [.sc (.sl a0), .sc (.int .i64 a1)] H).run =
  (newB H 1 []).bind fun h1 =>
  (C (.loop F.sl12Uses 0) [.sc (.int .i64 a1), .sc (.sl ⟨h1.1, 0, 0, 0, true⟩), .sc (.sl a0), .sc (.int .i64 (a0.n : Int)), .sc (.int .i64 0)] h1.2).bind fun r14 =>
  cond (Nat.beq r14.e 2)
  ((nthP r14.vs 0).bind fun p15 =>
   p15.sc?.bind fun c16 =>
   (slAt [c16] 0).bind fun s17 =>
   some ⟨1, [.sc (.sl s17)], r14.H⟩)
  (none) := by kernel_rfl
/- loop.example/g03211/spec.l37Pair -/
theorem e_sl37Pair (C : Oracle) (a0 : Int) (a1 a2 : Sl) (H : AH) : (procM P T C (.fn F.sl37Pair) [.sc (.int .i64 a0), .sc (.sl a1), .sc (.sl a2)] H).run =
  (newB H 1 [.int .i64 a0]).bind fun h1 =>
  (newB h1.2 1 [.int .i64 2]).bind fun h2 =>
  (C (.fn F.sl05Ints) [.sc (.sl a1)] h2.2).bind fun r3 =>
  (oneP r3.vs).bind fun p4 =>
  p4.sc?.bind fun c5 =>
  (slAt [c5] 0).bind fun s6 =>
  (rng r3.H a2.b a2.o (a2.n * 1)).bind fun l7 =>
  (appB r3.H 1 8 s6 l7 a2.n).bind fun m8 =>
  some ⟨1, [.agg [.sl ⟨h1.1, 0, 1, 1, true⟩, .sl ⟨h2.1, 0, 1, 1, true⟩, .sl m8.1]], m8.2⟩ := by kernel_rfl
/- loop.example/g03211/spec.NetworkOk -/
theorem e_sNetworkOk_0 (C : Oracle) (x19 : Sl) (x20 x21 y1_0 y1_1 y1_2 : Int) (y1_3 y1_4 : Sl) (H : AH) : (procM P T C (.loop F.sNetworkOk 0) [.sc (.sl x19), .sc (.int .i64 x20), .sc (.int .i64 x21), .agg [.int .i64 y1_0, .int .i64 y1_1, .int .i64 y1_2, .sl y1_3, .sl y1_4]] H).run =
  cond (decide (x21 < x20))
  ((ixA x19 x21 3).bind fun o5 =>
   (rdB H x19.b).bind fun c6 =>
   (slAt c6 o5).bind fun s7 =>
   (slAt c6 (o5 + 1)).bind fun s8 =>
   (slAt c6 (o5 + 1 + 1)).bind fun s9 =>
   (C (.fn F.sTensorOk) [.agg [.int .i64 y1_0, .int .i64 y1_1, .int .i64 y1_2], .agg [.sl s7, .sl s8, .sl s9]] H).bind fun r10 =>
   (oneP r10.vs).bind fun p11 =>
   p11.sc?.bind fun c12 =>
   (boolAt [c12] 0).bind fun b13 =>
   cond (!b13)
   (some ⟨1, [.sc (.bool false)], r10.H⟩)
   ((C (.loop F.sNetworkOk 1) [.sc (.int .i64 x21), .sc (.sl s7), .sc (.int .i64 (s7.n : Int)), .sc (.int .i64 0), .agg [.int .i64 y1_0, .int .i64 y1_1, .int .i64 y1_2, .sl y1_3, .sl y1_4], .agg [.sl s7, .sl s8, .sl s9]] r10.H).bind fun r25 =>
    cond (Nat.beq r25.e 1)
    ((nthP r25.vs 0).bind fun p26 =>
     p26.sc?.bind fun c27 =>
     (boolAt [c27] 0).bind fun b28 =>
     some ⟨1, [.sc (.bool b28)], r25.H⟩)
    (cond (Nat.beq r25.e 4)
     (C (.loop F.sNetworkOk 0) [.sc (.sl x19), .sc (.int .i64 x20), .sc (.int .i64 (IntKind.wrap .i64 (x21 + 1))), .agg [.int .i64 y1_0, .int .i64 y1_1, .int .i64 y1_2, .sl y1_3, .sl y1_4]] r25.H)
     (none))))
  (some ⟨2, [], H⟩) := by kernel_rfl
theorem e_sNetworkOk_1 (C : Oracle) (x3 : Int) (x32 : Sl) (x33 x34 y1_0 y1_1 y1_2 : Int) (y1_3 y1_4 y4_0 y4_1 y4_2 : Sl) (H : AH) : (procM P T C (.loop F.sNetworkOk 1) [.sc (.int .i64 x3), .sc (.sl x32), .sc (.int .i64 x33), .sc (.int .i64 x34), .agg [.int .i64 y1_0, .int .i64 y1_1, .int .i64 y1_2, .sl y1_3, .sl y1_4], .agg [.sl y4_0, .sl y4_1, .sl y4_2]] H).run =
  cond (decide (x34 < x33))
  ((ixA x32 x34 1).bind fun o14 =>
   (rdB H x32.b).bind fun c15 =>
   (intAt .i64 c15 o14).bind fun n16 =>
   (slB y1_3 none (some x3) none 3).bind fun s17 =>
   (C (.fn F.sl12Dim) [.sc (.sl s17), .sc (.int .i64 n16)] H).bind fun r18 =>
   (oneP r18.vs).bind fun p19 =>
   p19.sc?.bind fun c20 =>
   (intAt .i64 [c20] 0).bind fun n21 =>
   cond (decide (n21 > 0))
   ((ixA y4_1 x34 1).bind fun o22 =>
    (rdB r18.H y4_1.b).bind fun c23 =>
    (intAt .i64 c23 o22).bind fun n24 =>
    cond (n21 != n24)
    (some ⟨1, [.sc (.bool false)], r18.H⟩)
    (C (.loop F.sNetworkOk 1) [.sc (.int .i64 x3), .sc (.sl x32), .sc (.int .i64 x33), .sc (.int .i64 (IntKind.wrap .i64 (x34 + 1))), .agg [.int .i64 y1_0, .int .i64 y1_1, .int .i64 y1_2, .sl y1_3, .sl y1_4], .agg [.sl y4_0, .sl y4_1, .sl y4_2]] r18.H))
   (C (.loop F.sNetworkOk 1) [.sc (.int .i64 x3), .sc (.sl x32), .sc (.int .i64 x33), .sc (.int .i64 (IntKind.wrap .i64 (x34 + 1))), .agg [.int .i64 y1_0, .int .i64 y1_1, .int .i64 y1_2, .sl y1_3, .sl y1_4], .agg [.sl y4_0, .sl y4_1, .sl y4_2]] r18.H))
  (some ⟨4, [], H⟩) := by kernel_rfl
theorem e_sNetworkOk (C : Oracle) (a0_0 a0_1 a0_2 : Int) (a0_3 a0_4 : Sl) (H : AH) : (procM P T C (.fn F.sNetworkOk) [.agg [.int .i64 a0_0, .int .i64 a0_1, .int .i64 a0_2, .sl a0_3, .sl a0_4]] H).run =
  (C (.fn F.sRingOk) [.agg [.int .i64 a0_0, .int .i64 a0_1, .int .i64 a0_2]] H).bind fun r1 =>
  (oneP r1.vs).bind fun p2 =>
  p2.sc?.bind fun c3 =>
  (boolAt [c3] 0).bind fun b4 =>
  cond (!b4)
  (some ⟨1, [.sc (.bool false)], r1.H⟩)
  (cond (decide ((a0_3.n : Int) > 12))
   (some ⟨1, [.sc (.bool false)], r1.H⟩)
   ((C (.loop F.sNetworkOk 0) [.sc (.sl a0_3), .sc (.int .i64 (a0_3.n : Int)), .sc (.int .i64 0), .agg [.int .i64 a0_0, .int .i64 a0_1, .int .i64 a0_2, .sl a0_3, .sl a0_4]] r1.H).bind fun r29 =>
    cond (Nat.beq r29.e 1)
    ((nthP r29.vs 0).bind fun p30 =>
     p30.sc?.bind fun c31 =>
     (boolAt [c31] 0).bind fun b32 =>
     some ⟨1, [.sc (.bool b32)], r29.H⟩)
    (cond (Nat.beq r29.e 2)
     ((C (.fn F.sl12Dims) [.sc (.sl a0_3), .sc (.sl a0_4)] r29.H).bind fun r33 =>
      (oneP r33.vs).bind fun p34 =>
      p34.sc?.bind fun c35 =>
      (slAt [c35] 0).bind fun s36 =>
      (C (.fn F.sTensorSize) [.agg [.sl a0_4, .sl s36, .sl ⟨0, 0, 0, 0, true⟩]] r33.H).bind fun r37 =>
      (oneP r37.vs).bind fun p38 =>
      p38.sc?.bind fun c39 =>
      (intAt .i64 [c39] 0).bind fun n40 =>
      some ⟨1, [.sc (.bool (decide (n40 ≥ 0)))], r37.H⟩)
     (none)))) := by kernel_rfl
/- loop.example/g03211/laws.toIntSS -/
theorem e_wtoIntSS_0 (C : Oracle) (x0 x3 : Sl) (x4 : Int) (H : AH) : (procM P T C (.loop F.wtoIntSS 0) [.sc (.sl x0), .sc (.sl x3), .sc (.int .i64 x4)] H).run =
  cond (decide (x4 < (x0.n : Int)))
  ((ixA x0 x4 1).bind fun o2 =>
   (rdB H x0.b).bind fun c3 =>
   (slAt c3 o2).bind fun s4 =>
   (C (.fn F.wtoIntS) [.sc (.sl s4)] H).bind fun r5 =>
   (oneP r5.vs).bind fun p6 =>
   p6.sc?.bind fun c7 =>
   (slAt [c7] 0).bind fun s8 =>
   (ixA x3 x4 1).bind fun o9 =>
   (putR r5.H x3.b o9 [.sl s8]).bind fun H10 =>
   C (.loop F.wtoIntSS 0) [.sc (.sl x0), .sc (.sl x3), .sc (.int .i64 (IntKind.wrap .i64 (x4 + 1)))] H10)
  (some ⟨2, [], H⟩) := by kernel_rfl
theorem e_wtoIntSS (C : Oracle) (a0 : Sl) (H : AH) : (procM P T C (.fn F.wtoIntSS) [.sc (.sl a0)] H).run =
  (mkB H 1 24 [.sl ⟨0, 0, 0, 0, true⟩] (a0.n : Int) (a0.n : Int)).bind fun m1 =>
  (C (.loop F.wtoIntSS 0) [.sc (.sl a0), .sc (.sl m1.1), .sc (.int .i64 0)] m1.2).bind fun r11 =>
  cond (Nat.beq r11.e 2)
  (some ⟨1, [.sc (.sl m1.1)], r11.H⟩)
  (none) := by kernel_rfl
/- loop.example/g03211/impl.RingOk -/
theorem e_iRingOk (C : Oracle) (a0_0 a0_1 a0_2 : Int) (H : AH) : (procM P T C (.fn F.iRingOk) [.agg [.int .i64 a0_0, .int .i64 a0_1, .int .i64 a0_2]] H).run =
  cond (a0_0 == 1)
  (cond (a0_1 == 0)
   (some ⟨1, [.sc (.bool (a0_2 == 0))], H⟩)
   (some ⟨1, [.sc (.bool false)], H⟩))
  (cond (a0_0 == 2)
   ((C (.fn F.iIsPrime) [.sc (.int .i64 a0_1)] H).bind fun r1 =>
    (oneP r1.vs).bind fun p2 =>
    p2.sc?.bind fun c3 =>
    (boolAt [c3] 0).bind fun b4 =>
    cond b4
    (some ⟨1, [.sc (.bool (a0_2 == 0))], r1.H⟩)
    (some ⟨1, [.sc (.bool false)], r1.H⟩))
   (((cond (a0_0 == 3)
   (some ⟨0, [.sc (.bool (a0_0 == 3))], H⟩)
   (cond (a0_0 == 4)
    (some ⟨0, [.sc (.bool (a0_0 == 4))], H⟩)
    (some ⟨0, [.sc (.bool (a0_0 == 5))], H⟩)) : Option Out)).bind fun r5 =>
    cond (Nat.beq r5.e 0)
    ((nthP r5.vs 0).bind fun p6 =>
     p6.sc?.bind fun c7 =>
     (boolAt [c7] 0).bind fun b8 =>
     cond b8
     (cond (decide (a0_1 ≥ 1))
      (cond (decide (a0_1 ≤ 1000000))
       (some ⟨1, [.sc (.bool (a0_2 == 0))], r5.H⟩)
       (some ⟨1, [.sc (.bool false)], r5.H⟩))
      (some ⟨1, [.sc (.bool false)], r5.H⟩))
     (cond (a0_0 == 6)
      (cond (a0_1 == 0)
       (cond (decide (a0_2 ≥ 1))
        (some ⟨1, [.sc (.bool (decide (a0_2 ≤ 20)))], r5.H⟩)
        (some ⟨1, [.sc (.bool false)], r5.H⟩))
       (some ⟨1, [.sc (.bool false)], r5.H⟩))
      (cond (a0_0 == 7)
       ((C (.fn F.iIsPrime) [.sc (.int .i64 a0_1)] r5.H).bind fun r9 =>
        (oneP r9.vs).bind fun p10 =>
        p10.sc?.bind fun c11 =>
        (boolAt [c11] 0).bind fun b12 =>
        cond b12
        (cond (decide (a0_2 ≥ 1))
         (some ⟨1, [.sc (.bool (decide (a0_2 ≤ 6)))], r9.H⟩)
         (some ⟨1, [.sc (.bool false)], r9.H⟩))
        (some ⟨1, [.sc (.bool false)], r9.H⟩))
       (cond (a0_0 == 8)
        ((C (.fn F.iIsPrime) [.sc (.int .i64 a0_1)] r5.H).bind fun r13 =>
         (oneP r13.vs).bind fun p14 =>
         p14.sc?.bind fun c15 =>
         (boolAt [c15] 0).bind fun b16 =>
         cond b16
         (cond (a0_1 != 2)
          (some ⟨1, [.sc (.bool (a0_2 == 0))], r13.H⟩)
          (some ⟨1, [.sc (.bool false)], r13.H⟩))
         (some ⟨1, [.sc (.bool false)], r13.H⟩))
        (some ⟨1, [.sc (.bool false)], r5.H⟩)))))
    (none))) := by kernel_rfl
/- loop.example/g03211/impl.CnfOk -/
theorem e_iCnfOk_0 (C : Oracle) (x22 : Sl) (x23 x24 y1_0 : Int) (y1_1 : Sl) (H : AH) : (procM P T C (.loop F.iCnfOk 0) [.sc (.sl x22), .sc (.int .i64 x23), .sc (.int .i64 x24), .agg [.int .i64 y1_0, .sl y1_1]] H).run =
  cond (decide (x24 < x23))
  ((ixA x22 x24 1).bind fun o1 =>
   (rdB H x22.b).bind fun c2 =>
   (slAt c2 o1).bind fun s3 =>
   cond (decide ((s3.n : Int) > 4))
   (some ⟨1, [.sc (.bool false)], H⟩)
   ((C (.loop F.iCnfOk 1) [.sc (.sl s3), .sc (.int .i64 (s3.n : Int)), .sc (.int .i64 0), .agg [.int .i64 y1_0, .sl y1_1]] H).bind fun r7 =>
    cond (Nat.beq r7.e 1)
    ((nthP r7.vs 0).bind fun p8 =>
     p8.sc?.bind fun c9 =>
     (boolAt [c9] 0).bind fun b10 =>
     some ⟨1, [.sc (.bool b10)], r7.H⟩)
    (cond (Nat.beq r7.e 4)
     (C (.loop F.iCnfOk 0) [.sc (.sl x22), .sc (.int .i64 x23), .sc (.int .i64 (IntKind.wrap .i64 (x24 + 1))), .agg [.int .i64 y1_0, .sl y1_1]] r7.H)
     (none))))
  (some ⟨2, [], H⟩) := by kernel_rfl
theorem e_iCnfOk_1 (C : Oracle) (x31 : Sl) (x32 x33 y1_0 : Int) (y1_1 : Sl) (H : AH) : (procM P T C (.loop F.iCnfOk 1) [.sc (.sl x31), .sc (.int .i64 x32), .sc (.int .i64 x33), .agg [.int .i64 y1_0, .sl y1_1]] H).run =
  cond (decide (x33 < x32))
  ((ixA x31 x33 1).bind fun o4 =>
   (rdB H x31.b).bind fun c5 =>
   (intAt .i64 c5 o4).bind fun n6 =>
   cond (n6 == 0)
   (some ⟨1, [.sc (.bool false)], H⟩)
   (cond (decide (n6 < (IntKind.wrap .i64 (0 - y1_0))))
    (some ⟨1, [.sc (.bool false)], H⟩)
    (cond (decide (n6 > y1_0))
     (some ⟨1, [.sc (.bool false)], H⟩)
     (C (.loop F.iCnfOk 1) [.sc (.sl x31), .sc (.int .i64 x32), .sc (.int .i64 (IntKind.wrap .i64 (x33 + 1))), .agg [.int .i64 y1_0, .sl y1_1]] H))))
  (some ⟨4, [], H⟩) := by kernel_rfl
theorem e_iCnfOk (C : Oracle) (a0_0 : Int) (a0_1 : Sl) (H : AH) : (procM P T C (.fn F.iCnfOk) [.agg [.int .i64 a0_0, .sl a0_1]] H).run =
  cond (decide (a0_0 < 0))
  (some ⟨1, [.sc (.bool false)], H⟩)
  (cond (decide (a0_0 > 10))
   (some ⟨1, [.sc (.bool false)], H⟩)
   (cond (decide ((a0_1.n : Int) > 12))
    (some ⟨1, [.sc (.bool false)], H⟩)
    ((C (.loop F.iCnfOk 0) [.sc (.sl a0_1), .sc (.int .i64 (a0_1.n : Int)), .sc (.int .i64 0), .agg [.int .i64 a0_0, .sl a0_1]] H).bind fun r11 =>
     cond (Nat.beq r11.e 1)
     ((nthP r11.vs 0).bind fun p12 =>
      p12.sc?.bind fun c13 =>
      (boolAt [c13] 0).bind fun b14 =>
      some ⟨1, [.sc (.bool b14)], r11.H⟩)
     (cond (Nat.beq r11.e 2)
      (some ⟨1, [.sc (.bool true)], r11.H⟩)
      (none))))) := by kernel_rfl
/- loop.example/g03211/impl.clauseTensor -/
theorem e_iclauseTensor_0 (C : Oracle) (x2 x7 : Sl) (x8 y4_0 : Int) (y4_1 : Sl) (H : AH) : (procM P T C (.loop F.iclauseTensor 0) [.sc (.sl x2), .sc (.sl x7), .sc (.int .i64 x8), .agg [.int .i64 y4_0, .sl y4_1]] H).run =
  cond (decide (x8 ≤ y4_0))
  ((((C (.fn F.ihasInt) [.sc (.sl x2), .sc (.int .i64 x8)] H).bind fun r1 =>
   (oneP r1.vs).bind fun p2 =>
   p2.sc?.bind fun c3 =>
   (boolAt [c3] 0).bind fun b4 =>
   cond b4
   (some ⟨0, [.sc (.bool true)], r1.H⟩)
   ((C (.fn F.ihasInt) [.sc (.sl x2), .sc (.int .i64 (IntKind.wrap .i64 (0 - x8)))] r1.H).bind fun r5 =>
    (oneP r5.vs).bind fun p6 =>
    p6.sc?.bind fun c7 =>
    (boolAt [c7] 0).bind fun b8 =>
    some ⟨0, [.sc (.bool b8)], r5.H⟩) : Option Out)).bind fun r9 =>
   cond (Nat.beq r9.e 0)
   ((nthP r9.vs 0).bind fun p10 =>
    p10.sc?.bind fun c11 =>
    (boolAt [c11] 0).bind fun b12 =>
    cond b12
    ((newB r9.H 1 [.int .i64 (IntKind.wrap .i64 (x8 - 1))]).bind fun h13 =>
     (rng h13.2 h13.1 0 (1 * 1)).bind fun l14 =>
     (appB h13.2 1 8 x7 l14 1).bind fun m15 =>
     C (.loop F.iclauseTensor 0) [.sc (.sl x2), .sc (.sl m15.1), .sc (.int .i64 (IntKind.wrap .i64 (x8 + 1))), .agg [.int .i64 y4_0, .sl y4_1]] m15.2)
    (C (.loop F.iclauseTensor 0) [.sc (.sl x2), .sc (.sl x7), .sc (.int .i64 (IntKind.wrap .i64 (x8 + 1))), .agg [.int .i64 y4_0, .sl y4_1]] r9.H))
   (none))
  (some ⟨2, [.sc (.sl x7)], H⟩) := by kernel_rfl
theorem e_iclauseTensor_1 (C : Oracle) (x2 x7 x10 x11 : Sl) (y3_0 y3_1 y3_2 : Int) (y6_0 y6_1 y6_2 y9_0 y9_1 y9_2 : Sl) (H : AH) : (procM P T C (.loop F.iclauseTensor 1) [.sc (.sl x2), .sc (.sl x7), .sc (.sl x10), .sc (.sl x11), .agg [.int .i64 y3_0, .int .i64 y3_1, .int .i64 y3_2], .agg [.sl y6_0, .sl y6_1, .sl y6_2], .agg [.sl y9_0, .sl y9_1, .sl y9_2]] H).run =
  (C (.loop F.iclauseTensor 2) [.sc (.sl x10), .sc (.sl x11), .sc (.sl x7), .sc (.int .i64 (x7.n : Int)), .sc (.int .i64 0)] H).bind fun r44 =>
  cond (Nat.beq r44.e 6)
  ((((C (.fn F.iclauseTrue) [.sc (.sl x2), .sc (.sl x11)] r44.H).bind fun r45 =>
   (oneP r45.vs).bind fun p46 =>
   p46.sc?.bind fun c47 =>
   (boolAt [c47] 0).bind fun b48 =>
   cond b48
   ((C (.fn F.ioffsetIn) [.sc (.sl y9_1), .sc (.sl x10)] r45.H).bind fun r49 =>
    (oneP r49.vs).bind fun p50 =>
    p50.sc?.bind fun c51 =>
    (intAt .i64 [c51] 0).bind fun n52 =>
    (C (.fn F.irawElem) [.agg [.int .i64 y3_0, .int .i64 y3_1, .int .i64 y3_2], .agg [.sl y9_0, .sl y9_1, .sl y9_2], .sc (.int .i64 n52)] r49.H).bind fun r53 =>
    (oneP r53.vs).bind fun p54 =>
    p54.sc?.bind fun c55 =>
    (slAt [c55] 0).bind fun s56 =>
    (C (.fn F.irawOne) [.agg [.int .i64 y3_0, .int .i64 y3_1, .int .i64 y3_2]] r53.H).bind fun r57 =>
    (oneP r57.vs).bind fun p58 =>
    p58.sc?.bind fun c59 =>
    (slAt [c59] 0).bind fun s60 =>
    (cpB r57.H 1 s56 s60).bind fun m61 =>
    some ⟨0, [], m61.2⟩)
   (some ⟨0, [], r45.H⟩) : Option Out)).bind fun r62 =>
   cond (Nat.beq r62.e 0)
   ((C (.fn F.inextIndex) [.sc (.sl y9_1), .sc (.sl x10)] r62.H).bind fun r63 =>
    (oneP r63.vs).bind fun p64 =>
    p64.sc?.bind fun c65 =>
    (boolAt [c65] 0).bind fun b66 =>
    cond (!b66)
    (some ⟨1, [.agg [.sl y9_0, .sl y9_1, .sl y9_2]], r63.H⟩)
    (C (.loop F.iclauseTensor 1) [.sc (.sl x2), .sc (.sl x7), .sc (.sl x10), .sc (.sl x11), .agg [.int .i64 y3_0, .int .i64 y3_1, .int .i64 y3_2], .agg [.sl y6_0, .sl y6_1, .sl y6_2], .agg [.sl y9_0, .sl y9_1, .sl y9_2]] r63.H))
   (none))
  (none) := by kernel_rfl
theorem e_iclauseTensor_2 (C : Oracle) (x10 x11 x48 : Sl) (x49 x50 : Int) (H : AH) : (procM P T C (.loop F.iclauseTensor 2) [.sc (.sl x10), .sc (.sl x11), .sc (.sl x48), .sc (.int .i64 x49), .sc (.int .i64 x50)] H).run =
  cond (decide (x50 < x49))
  ((ixA x48 x50 1).bind fun o36 =>
   (rdB H x48.b).bind fun c37 =>
   (intAt .i64 c37 o36).bind fun n38 =>
   (ixA x10 x50 1).bind fun o39 =>
   (rdB H x10.b).bind fun c40 =>
   (intAt .i64 c40 o39).bind fun n41 =>
   (ixA x11 n38 1).bind fun o42 =>
   (putR H x11.b o42 [.int .i64 n41]).bind fun H43 =>
   C (.loop F.iclauseTensor 2) [.sc (.sl x10), .sc (.sl x11), .sc (.sl x48), .sc (.int .i64 x49), .sc (.int .i64 (IntKind.wrap .i64 (x50 + 1)))] H43)
  (some ⟨6, [], H⟩) := by kernel_rfl
theorem e_iclauseTensor (C : Oracle) (a0_0 a0_1 a0_2 a1_0 : Int) (a1_1 a2 : Sl) (H : AH) : (procM P T C (.fn F.iclauseTensor) [.agg [.int .i64 a0_0, .int .i64 a0_1, .int .i64 a0_2], .agg [.int .i64 a1_0, .sl a1_1], .sc (.sl a2)] H).run =
  (C (.loop F.iclauseTensor 0) [.sc (.sl a2), .sc (.sl ⟨0, 0, 0, 0, true⟩), .sc (.int .i64 1), .agg [.int .i64 a1_0, .sl a1_1]] H).bind fun r16 =>
  cond (Nat.beq r16.e 2)
  ((nthP r16.vs 0).bind fun p17 =>
   p17.sc?.bind fun c18 =>
   (slAt [c18] 0).bind fun s19 =>
   (C (.fn F.itwos) [.sc (.int .i64 (s19.n : Int))] r16.H).bind fun r20 =>
   (oneP r20.vs).bind fun p21 =>
   p21.sc?.bind fun c22 =>
   (slAt [c22] 0).bind fun s23 =>
   (C (.fn F.irawZero) [.agg [.int .i64 a0_0, .int .i64 a0_1, .int .i64 a0_2]] r20.H).bind fun r24 =>
   (oneP r24.vs).bind fun p25 =>
   p25.sc?.bind fun c26 =>
   (slAt [c26] 0).bind fun s27 =>
   (C (.fn F.ifillTensor) [.agg [.int .i64 a0_0, .int .i64 a0_1, .int .i64 a0_2], .sc (.sl s19), .sc (.sl s23), .sc (.sl s27)] r24.H).bind fun r28 =>
   (oneP r28.vs).bind fun p29 =>
   p29.agg?.bind fun l30 =>
   cond (decide (l30.length = 3))
   ((slAt l30 0).bind fun s31 =>
    (slAt l30 1).bind fun s32 =>
    (slAt l30 2).bind fun s33 =>
    (mkB r28.H 1 8 [.int .i64 0] (s19.n : Int) (s19.n : Int)).bind fun m34 =>
    (mkB m34.2 1 8 [.int .i64 0] a1_0 a1_0).bind fun m35 =>
    (C (.loop F.iclauseTensor 1) [.sc (.sl a2), .sc (.sl s19), .sc (.sl m34.1), .sc (.sl m35.1), .agg [.int .i64 a0_0, .int .i64 a0_1, .int .i64 a0_2], .agg [.sl ⟨0, 0, 0, 0, true⟩, .sl ⟨0, 0, 0, 0, true⟩, .sl ⟨0, 0, 0, 0, true⟩], .agg [.sl s31, .sl s32, .sl s33]] m35.2).bind fun r67 =>
    cond (Nat.beq r67.e 1)
    (((nthP r67.vs 0).bind PV.agg?).bind fun l68 =>
     cond (decide (l68.length = 3))
     ((slAt l68 0).bind fun s69 =>
      (slAt l68 1).bind fun s70 =>
      (slAt l68 2).bind fun s71 =>
      some ⟨1, [.agg [.sl s69, .sl s70, .sl s71]], r67.H⟩)
     (none))
    (none))
   (none))
  (none) := by kernel_rfl
/- loop.example/g03211/impl.variableOf -/
theorem e_ivariableOf (C : Oracle) (a0 : Int) (H : AH) : (procM P T C (.fn F.ivariableOf) [.sc (.int .i64 a0)] H).run =
  some ⟨1, [.sc (.int .i64 (if IntKind.wrap .i64 (0 - a0) > a0 then IntKind.wrap .i64 (0 - a0) else a0))], H⟩ := by kernel_rfl
/- loop.example/g03211/impl.pairTensor -/
theorem e_ipairTensor (C : Oracle) (a0 : Int) (a1 a2 : Sl) (H : AH) : (procM P T C (.fn F.ipairTensor) [.sc (.int .i64 a0), .sc (.sl a1), .sc (.sl a2)] H).run =
  (newB H 1 [.int .i64 a0]).bind fun h1 =>
  (newB h1.2 1 [.int .i64 2]).bind fun h2 =>
  (C (.fn F.icopyInts) [.sc (.sl a1)] h2.2).bind fun r3 =>
  (oneP r3.vs).bind fun p4 =>
  p4.sc?.bind fun c5 =>
  (slAt [c5] 0).bind fun s6 =>
  (rng r3.H a2.b a2.o (a2.n * 1)).bind fun l7 =>
  (appB r3.H 1 8 s6 l7 a2.n).bind fun m8 =>
  some ⟨1, [.agg [.sl ⟨h1.1, 0, 1, 1, true⟩, .sl ⟨h2.1, 0, 1, 1, true⟩, .sl m8.1]], m8.2⟩ := by kernel_rfl
/- loop.example/g03211/impl.rawOne -/
theorem e_irawOne (C : Oracle) (a0_0 a0_1 a0_2 : Int) (H : AH) : (procM P T C (.fn F.irawOne) [.agg [.int .i64 a0_0, .int .i64 a0_1, .int .i64 a0_2]] H).run =
  (C (.fn F.irawWidth) [.agg [.int .i64 a0_0, .int .i64 a0_1, .int .i64 a0_2]] H).bind fun r1 =>
  (oneP r1.vs).bind fun p2 =>
  p2.sc?.bind fun c3 =>
  (intAt .i64 [c3] 0).bind fun n4 =>
  (mkB r1.H 1 8 [.int .i64 0] n4 n4).bind fun m5 =>
  cond (a0_0 == 4)
  ((ixA m5.1 0 1).bind fun o6 =>
   (putR m5.2 m5.1.b o6 [.int .i64 0]).bind fun H7 =>
   some ⟨1, [.sc (.sl m5.1)], H7⟩)
  (cond (a0_0 == 5)
   ((ixA m5.1 0 1).bind fun o8 =>
    (putR m5.2 m5.1.b o8 [.int .i64 a0_1]).bind fun H9 =>
    some ⟨1, [.sc (.sl m5.1)], H9⟩)
   (cond (a0_0 == 6)
    ((C (.fn F.irawTop) [.agg [.int .i64 a0_0, .int .i64 a0_1, .int .i64 a0_2]] m5.2).bind fun r10 =>
     (oneP r10.vs).bind fun p11 =>
     p11.sc?.bind fun c12 =>
     (intAt .i64 [c12] 0).bind fun n13 =>
     (ixA m5.1 0 1).bind fun o14 =>
     (putR r10.H m5.1.b o14 [.int .i64 n13]).bind fun H15 =>
     some ⟨1, [.sc (.sl m5.1)], H15⟩)
    ((ixA m5.1 0 1).bind fun o16 =>
     (putR m5.2 m5.1.b o16 [.int .i64 1]).bind fun H17 =>
     some ⟨1, [.sc (.sl m5.1)], H17⟩))) := by kernel_rfl
/- loop.example/g03211/impl.NetworkOk -/
theorem e_iNetworkOk_0 (C : Oracle) (x26 : Sl) (x27 x28 y1_0 y1_1 y1_2 : Int) (y1_3 y1_4 : Sl) (H : AH) : (procM P T C (.loop F.iNetworkOk 0) [.sc (.sl x26), .sc (.int .i64 x27), .sc (.int .i64 x28), .agg [.int .i64 y1_0, .int .i64 y1_1, .int .i64 y1_2, .sl y1_3, .sl y1_4]] H).run =
  cond (decide (x28 < x27))
  ((ixA x26 x28 3).bind fun o5 =>
   (rdB H x26.b).bind fun c6 =>
   (slAt c6 o5).bind fun s7 =>
   (slAt c6 (o5 + 1)).bind fun s8 =>
   (slAt c6 (o5 + 1 + 1)).bind fun s9 =>
   (C (.fn F.iTensorOk) [.agg [.int .i64 y1_0, .int .i64 y1_1, .int .i64 y1_2], .agg [.sl s7, .sl s8, .sl s9]] H).bind fun r10 =>
   (oneP r10.vs).bind fun p11 =>
   p11.sc?.bind fun c12 =>
   (boolAt [c12] 0).bind fun b13 =>
   cond (!b13)
   (some ⟨1, [.sc (.bool false)], r10.H⟩)
   (C (.loop F.iNetworkOk 0) [.sc (.sl x26), .sc (.int .i64 x27), .sc (.int .i64 (IntKind.wrap .i64 (x28 + 1))), .agg [.int .i64 y1_0, .int .i64 y1_1, .int .i64 y1_2, .sl y1_3, .sl y1_4]] r10.H))
  (some ⟨2, [], H⟩) := by kernel_rfl
theorem e_iNetworkOk_1 (C : Oracle) (x47 : Sl) (x48 x49 : Int) (y5 : List Sc) (H : AH) : (procM P T C (.loop F.iNetworkOk 1) [.sc (.sl x47), .sc (.int .i64 x48), .sc (.int .i64 x49), .agg y5] H).run =
  cond (decide (x49 < x48))
  ((ixA x47 x49 1).bind fun o24 =>
   (rdB H x47.b).bind fun c25 =>
   (intAt .i64 c25 o24).bind fun n26 =>
   cond (decide (n26 < 0))
   (some ⟨1, [.sc (.bool false)], H⟩)
   (cond (decide (n26 > 99))
    (some ⟨1, [.sc (.bool false)], H⟩)
    ((ixA ⟨0, 0, 100, 100, true⟩ n26 1).bind fun o27 =>
     (intAt .i64 y5 o27).bind fun n28 =>
     cond (n28 == 0)
     (some ⟨1, [.sc (.bool false)], H⟩)
     (C (.loop F.iNetworkOk 1) [.sc (.sl x47), .sc (.int .i64 x48), .sc (.int .i64 (IntKind.wrap .i64 (x49 + 1))), .agg y5] H))))
  (some ⟨4, [], H⟩) := by kernel_rfl
theorem e_iNetworkOk (C : Oracle) (a0_0 a0_1 a0_2 : Int) (a0_3 a0_4 : Sl) (H : AH) : (procM P T C (.fn F.iNetworkOk) [.agg [.int .i64 a0_0, .int .i64 a0_1, .int .i64 a0_2, .sl a0_3, .sl a0_4]] H).run =
  (C (.fn F.iRingOk) [.agg [.int .i64 a0_0, .int .i64 a0_1, .int .i64 a0_2]] H).bind fun r1 =>
  (oneP r1.vs).bind fun p2 =>
  p2.sc?.bind fun c3 =>
  (boolAt [c3] 0).bind fun b4 =>
  cond (!b4)
  (some ⟨1, [.sc (.bool false)], r1.H⟩)
  (cond (decide ((a0_3.n : Int) > 12))
   (some ⟨1, [.sc (.bool false)], r1.H⟩)
   (cond (decide ((a0_4.n : Int) > 12))
    (some ⟨1, [.sc (.bool false)], r1.H⟩)
    ((C (.loop F.iNetworkOk 0) [.sc (.sl a0_3), .sc (.int .i64 (a0_3.n : Int)), .sc (.int .i64 0), .agg [.int .i64 a0_0, .int .i64 a0_1, .int .i64 a0_2, .sl a0_3, .sl a0_4]] r1.H).bind fun r14 =>
     cond (Nat.beq r14.e 1)
     ((nthP r14.vs 0).bind fun p15 =>
      p15.sc?.bind fun c16 =>
      (boolAt [c16] 0).bind fun b17 =>
      some ⟨1, [.sc (.bool b17)], r14.H⟩)
     (cond (Nat.beq r14.e 2)
      ((C (.fn F.idimsOf) [.sc (.sl a0_3)] r14.H).bind fun r18 =>
       (lenP r18.vs 2).bind fun _ =>
       (nthP r18.vs 0).bind fun p19 =>
       p19.agg?.bind fun l20 =>
       cond (decide (l20.length = 100))
       ((nthP r18.vs 1).bind fun p21 =>
        p21.sc?.bind fun c22 =>
        (boolAt [c22] 0).bind fun b23 =>
        cond (Nat.beq l20.length 100)
        (cond (decide (0 + l20.length ≤ (zc P Y.t100_int).length))
         (cond (!b23)
          (some ⟨1, [.sc (.bool false)], r18.H⟩)
          ((C (.loop F.iNetworkOk 1) [.sc (.sl a0_4), .sc (.int .i64 (a0_4.n : Int)), .sc (.int .i64 0), .agg (setAll (zc P Y.t100_int) 0 l20)] r18.H).bind fun r29 =>
           cond (Nat.beq r29.e 1)
           ((nthP r29.vs 0).bind fun p30 =>
            p30.sc?.bind fun c31 =>
            (boolAt [c31] 0).bind fun b32 =>
            some ⟨1, [.sc (.bool b32)], r29.H⟩)
           (cond (Nat.beq r29.e 4)
            (cond (decide (100 ≤ (setAll (zc P Y.t100_int) 0 l20).length))
             ((C (.fn F.iaxesOf) [.agg (((setAll (zc P Y.t100_int) 0 l20).drop 0).take 100), .sc (.sl a0_4)] r29.H).bind fun r33 =>
              (oneP r33.vs).bind fun p34 =>
              p34.agg?.bind fun l35 =>
              cond (decide (l35.length = 3))
              ((slAt l35 0).bind fun s36 =>
               (slAt l35 1).bind fun s37 =>
               (slAt l35 2).bind fun s38 =>
               (C (.fn F.iTensorSize) [.agg [.sl s36, .sl s37, .sl s38]] r33.H).bind fun r39 =>
               (oneP r39.vs).bind fun p40 =>
               p40.sc?.bind fun c41 =>
               (intAt .i64 [c41] 0).bind fun n42 =>
               some ⟨1, [.sc (.bool (n42 != (-1)))], r39.H⟩)
              (none))
             (none))
            (none))))
         (none))
        (none))
       (none))
      (none))))) := by kernel_rfl
/- loop.example/g03211/laws.eqRing -/
theorem e_weqRing (C : Oracle) (a0_0 a0_1 a0_2 a1_0 a1_1 a1_2 : Int) (H : AH) : (procM P T C (.fn F.weqRing) [.agg [.int .i64 a0_0, .int .i64 a0_1, .int .i64 a0_2], .agg [.int .i64 a1_0, .int .i64 a1_1, .int .i64 a1_2]] H).run =
  cond (a0_0 != a1_0)
  (some ⟨1, [.sc (.bool false)], H⟩)
  (cond (a0_1 != a1_1)
   (some ⟨1, [.sc (.bool false)], H⟩)
   (cond (a0_2 != a1_2)
    (some ⟨1, [.sc (.bool false)], H⟩)
    (some ⟨1, [.sc (.bool true)], H⟩))) := by kernel_rfl
/- loop.example/g03211/laws.eqTensorS -/
theorem e_weqTensorS_0 (C : Oracle) (x0 x1 : Sl) (x5 : Int) (H : AH) : (procM P T C (.loop F.weqTensorS 0) [.sc (.sl x0), .sc (.sl x1), .sc (.int .i64 x5)] H).run =
  cond (decide (x5 < (x0.n : Int)))
  ((ixA x0 x5 3).bind fun o1 =>
   (rdB H x0.b).bind fun c2 =>
   (slAt c2 o1).bind fun s3 =>
   (slAt c2 (o1 + 1)).bind fun s4 =>
   (slAt c2 (o1 + 1 + 1)).bind fun s5 =>
   (ixA x1 x5 3).bind fun o6 =>
   (rdB H x1.b).bind fun c7 =>
   (slAt c7 o6).bind fun s8 =>
   (slAt c7 (o6 + 1)).bind fun s9 =>
   (slAt c7 (o6 + 1 + 1)).bind fun s10 =>
   (C (.fn F.weqTensor) [.agg [.sl s3, .sl s4, .sl s5], .agg [.sl s8, .sl s9, .sl s10]] H).bind fun r11 =>
   (oneP r11.vs).bind fun p12 =>
   p12.sc?.bind fun c13 =>
   (boolAt [c13] 0).bind fun b14 =>
   cond (!b14)
   (some ⟨1, [.sc (.bool false)], r11.H⟩)
   (C (.loop F.weqTensorS 0) [.sc (.sl x0), .sc (.sl x1), .sc (.int .i64 (IntKind.wrap .i64 (x5 + 1)))] r11.H))
  (some ⟨2, [], H⟩) := by kernel_rfl
theorem e_weqTensorS (C : Oracle) (a0 a1 : Sl) (H : AH) : (procM P T C (.fn F.weqTensorS) [.sc (.sl a0), .sc (.sl a1)] H).run =
  cond ((a0.n : Int) != (a1.n : Int))
  (some ⟨1, [.sc (.bool false)], H⟩)
  ((C (.loop F.weqTensorS 0) [.sc (.sl a0), .sc (.sl a1), .sc (.int .i64 0)] H).bind fun r15 =>
   cond (Nat.beq r15.e 1)
   ((nthP r15.vs 0).bind fun p16 =>
    p16.sc?.bind fun c17 =>
    (boolAt [c17] 0).bind fun b18 =>
    some ⟨1, [.sc (.bool b18)], r15.H⟩)
   (cond (Nat.beq r15.e 2)
    (some ⟨1, [.sc (.bool true)], r15.H⟩)
    (none))) := by kernel_rfl
/- loop.example/g03211/laws.eqIntSS -/
theorem e_weqIntSS_0 (C : Oracle) (x0 x1 : Sl) (x5 : Int) (H : AH) : (procM P T C (.loop F.weqIntSS 0) [.sc (.sl x0), .sc (.sl x1), .sc (.int .i64 x5)] H).run =
  cond (decide (x5 < (x0.n : Int)))
  ((ixA x0 x5 1).bind fun o1 =>
   (rdB H x0.b).bind fun c2 =>
   (slAt c2 o1).bind fun s3 =>
   (ixA x1 x5 1).bind fun o4 =>
   (rdB H x1.b).bind fun c5 =>
   (slAt c5 o4).bind fun s6 =>
   (C (.fn F.weqIntS) [.sc (.sl s3), .sc (.sl s6)] H).bind fun r7 =>
   (oneP r7.vs).bind fun p8 =>
   p8.sc?.bind fun c9 =>
   (boolAt [c9] 0).bind fun b10 =>
   cond (!b10)
   (some ⟨1, [.sc (.bool false)], r7.H⟩)
   (C (.loop F.weqIntSS 0) [.sc (.sl x0), .sc (.sl x1), .sc (.int .i64 (IntKind.wrap .i64 (x5 + 1)))] r7.H))
  (some ⟨2, [], H⟩) := by kernel_rfl
theorem e_weqIntSS (C : Oracle) (a0 a1 : Sl) (H : AH) : (procM P T C (.fn F.weqIntSS) [.sc (.sl a0), .sc (.sl a1)] H).run =
  cond ((a0.n : Int) != (a1.n : Int))
  (some ⟨1, [.sc (.bool false)], H⟩)
  ((C (.loop F.weqIntSS 0) [.sc (.sl a0), .sc (.sl a1), .sc (.int .i64 0)] H).bind fun r11 =>
   cond (Nat.beq r11.e 1)
   ((nthP r11.vs 0).bind fun p12 =>
    p12.sc?.bind fun c13 =>
    (boolAt [c13] 0).bind fun b14 =>
    some ⟨1, [.sc (.bool b14)], r11.H⟩)
   (cond (Nat.beq r11.e 2)
    (some ⟨1, [.sc (.bool true)], r11.H⟩)
    (none))) := by kernel_rfl
/- loop.example/g03211/laws.markIntSS -/
theorem e_wmarkIntSS_0 (C : Oracle) (x0 : Sl) (x1 x5 : Int) (H : AH) : (procM P T C (.loop F.wmarkIntSS 0) [.sc (.sl x0), .sc (.int .i64 x1), .sc (.int .i64 x5)] H).run =
  cond (decide (x5 < (x0.n : Int)))
  ((ixA x0 x5 1).bind fun o1 =>
   (rdB H x0.b).bind fun c2 =>
   (slAt c2 o1).bind fun s3 =>
   (C (.fn F.wmarkIntS) [.sc (.sl s3), .sc (.int .i64 x1)] H).bind fun r4 =>
   (oneP r4.vs).bind fun p5 =>
   p5.sc?.bind fun c6 =>
   (intAt .i64 [c6] 0).bind fun n7 =>
   C (.loop F.wmarkIntSS 0) [.sc (.sl x0), .sc (.int .i64 n7), .sc (.int .i64 (IntKind.wrap .i64 (x5 + 1)))] r4.H)
  (some ⟨2, [.sc (.int .i64 x1)], H⟩) := by kernel_rfl
theorem e_wmarkIntSS (C : Oracle) (a0 : Sl) (a1 : Int) (H : AH) : (procM P T C (.fn F.wmarkIntSS) [.sc (.sl a0), .sc (.int .i64 a1)] H).run =
  (C (.loop F.wmarkIntSS 0) [.sc (.sl a0), .sc (.int .i64 a1), .sc (.int .i64 0)] H).bind fun r8 =>
  cond (Nat.beq r8.e 2)
  ((nthP r8.vs 0).bind fun p9 =>
   p9.sc?.bind fun c10 =>
   (intAt .i64 [c10] 0).bind fun n11 =>
   some ⟨1, [.sc (.int .i64 n11)], r8.H⟩)
  (none) := by kernel_rfl
end Go.Abs
