/- Part of the proof of FnExactApplyPauli: that for every input the law answers true and leaves what it reads as it was. Conditions: none beyond the given statement. -/
import Derived.Test.YtabkpkhjpfjpeaaLabTab
import Derived.KernelRfl
set_option linter.all false
/- The equations of the functions: what the abstract interpreter makes of their code. -/
namespace Go.Abs
set_option maxRecDepth 100000
set_option linter.unusedVariables false
/- loop.example/g03211/laws.FnExactApplyPauli -/
theorem e_wFnExactApplyPauli (C : Oracle) (a0 a1_0 a1_1 a1_2 : Int) (a2_0 a2_1 a2_2 : Sl) (H : AH) : (procM P T C (.fn F.wFnExactApplyPauli) [.sc (.int .i64 a0), .agg [.int .i64 a1_0, .int .i64 a1_1, .int .i64 a1_2], .agg [.sl a2_0, .sl a2_1, .sl a2_2]] H).run =
  (C (.fn F.wszTensor) [.agg [.sl a2_0, .sl a2_1, .sl a2_2], .sc (.int .i64 1048576)] H).bind fun r1 =>
  (oneP r1.vs).bind fun p2 =>
  p2.sc?.bind fun c3 =>
  (intAt .i64 [c3] 0).bind fun n4 =>
  cond (decide (n4 < 0))
  (some ⟨1, [.sc (.bool true)], r1.H⟩)
  ((C (.fn F.wtoPauli) [.agg [.int .i64 a1_0, .int .i64 a1_1, .int .i64 a1_2]] r1.H).bind fun r5 =>
   (oneP r5.vs).bind fun p6 =>
   p6.agg?.bind fun l7 =>
   cond (decide (l7.length = 3))
   ((intAt .i64 l7 0).bind fun n8 =>
    (intAt .i64 l7 1).bind fun n9 =>
    (intAt .i64 l7 2).bind fun n10 =>
    (C (.fn F.wtoTensor) [.agg [.sl a2_0, .sl a2_1, .sl a2_2]] r5.H).bind fun r11 =>
    (oneP r11.vs).bind fun p12 =>
    p12.agg?.bind fun l13 =>
    cond (decide (l13.length = 3))
    ((slAt l13 0).bind fun s14 =>
     (slAt l13 1).bind fun s15 =>
     (slAt l13 2).bind fun s16 =>
     (C (.fn F.sApplyPauli) [.sc (.int .i64 a0), .agg [.int .i64 n8, .int .i64 n9, .int .i64 n10], .agg [.sl s14, .sl s15, .sl s16]] r11.H).bind fun r17 =>
     (lenP r17.vs 2).bind fun _ =>
     (nthP r17.vs 0).bind fun p18 =>
     p18.agg?.bind fun l19 =>
     cond (decide (l19.length = 3))
     ((slAt l19 0).bind fun s20 =>
      (slAt l19 1).bind fun s21 =>
      (slAt l19 2).bind fun s22 =>
      (nthP r17.vs 1).bind fun p23 =>
      p23.sc?.bind fun c24 =>
      (boolAt [c24] 0).bind fun b25 =>
      (C (.fn F.wtoTensor) [.agg [.sl a2_0, .sl a2_1, .sl a2_2]] r17.H).bind fun r26 =>
      (oneP r26.vs).bind fun p27 =>
      p27.agg?.bind fun l28 =>
      cond (decide (l28.length = 3))
      ((slAt l28 0).bind fun s29 =>
       (slAt l28 1).bind fun s30 =>
       (slAt l28 2).bind fun s31 =>
       (C (.fn F.wtoPauli) [.agg [.int .i64 a1_0, .int .i64 a1_1, .int .i64 a1_2]] r26.H).bind fun r32 =>
       (oneP r32.vs).bind fun p33 =>
       p33.agg?.bind fun l34 =>
       cond (decide (l34.length = 3))
       ((intAt .i64 l34 0).bind fun n35 =>
        (intAt .i64 l34 1).bind fun n36 =>
        (intAt .i64 l34 2).bind fun n37 =>
        (C (.fn F.iApplyPauli) [.sc (.int .i64 a0), .agg [.int .i64 n35, .int .i64 n36, .int .i64 n37], .agg [.sl s29, .sl s30, .sl s31]] r32.H).bind fun r38 =>
        (lenP r38.vs 2).bind fun _ =>
        (nthP r38.vs 0).bind fun p39 =>
        p39.agg?.bind fun l40 =>
        cond (decide (l40.length = 3))
        ((slAt l40 0).bind fun s41 =>
         (slAt l40 1).bind fun s42 =>
         (slAt l40 2).bind fun s43 =>
         (nthP r38.vs 1).bind fun p44 =>
         p44.sc?.bind fun c45 =>
         (boolAt [c45] 0).bind fun b46 =>
         (C (.fn F.weqTensor) [.agg [.sl s41, .sl s42, .sl s43], .agg [.sl s20, .sl s21, .sl s22]] r38.H).bind fun r47 =>
         (oneP r47.vs).bind fun p48 =>
         p48.sc?.bind fun c49 =>
         (boolAt [c49] 0).bind fun b50 =>
         cond (!b50)
         (some ⟨1, [.sc (.bool false)], r47.H⟩)
         (cond (b46 != b25)
          (some ⟨1, [.sc (.bool false)], r47.H⟩)
          ((C (.fn F.wtoTensor) [.agg [.sl a2_0, .sl a2_1, .sl a2_2]] r47.H).bind fun r51 =>
           (oneP r51.vs).bind fun p52 =>
           p52.agg?.bind fun l53 =>
           cond (decide (l53.length = 3))
           ((slAt l53 0).bind fun s54 =>
            (slAt l53 1).bind fun s55 =>
            (slAt l53 2).bind fun s56 =>
            (C (.fn F.weqTensor) [.agg [.sl s29, .sl s30, .sl s31], .agg [.sl s54, .sl s55, .sl s56]] r51.H).bind fun r57 =>
            (oneP r57.vs).bind fun p58 =>
            p58.sc?.bind fun c59 =>
            (boolAt [c59] 0).bind fun b60 =>
            cond (!b60)
            (some ⟨1, [.sc (.bool false)], r57.H⟩)
            ((C (.fn F.wmarkTensor) [.agg [.sl s29, .sl s30, .sl s31], .sc (.int .i64 1)] r57.H).bind fun r61 =>
             (oneP r61.vs).bind fun p62 =>
             p62.sc?.bind fun c63 =>
             (intAt .i64 [c63] 0).bind fun n64 =>
             cond (decide (n64 < 0))
             (some ⟨1, [.sc (.bool false)], r61.H⟩)
             ((C (.fn F.weqTensor) [.agg [.sl s41, .sl s42, .sl s43], .agg [.sl s20, .sl s21, .sl s22]] r61.H).bind fun r65 =>
              (oneP r65.vs).bind fun p66 =>
              p66.sc?.bind fun c67 =>
              (boolAt [c67] 0).bind fun b68 =>
              cond (!b68)
              (some ⟨1, [.sc (.bool false)], r65.H⟩)
              (cond (b46 != b25)
               (some ⟨1, [.sc (.bool false)], r65.H⟩)
               ((C (.fn F.wmarkTensor) [.agg [.sl s41, .sl s42, .sl s43], .sc (.int .i64 1)] r65.H).bind fun r69 =>
                (oneP r69.vs).bind fun p70 =>
                p70.sc?.bind fun c71 =>
                (intAt .i64 [c71] 0).bind fun n72 =>
                (C (.fn F.wheldTensor) [.agg [.sl s41, .sl s42, .sl s43], .sc (.int .i64 1)] r69.H).bind fun r73 =>
                (oneP r73.vs).bind fun p74 =>
                p74.sc?.bind fun c75 =>
                (intAt .i64 [c75] 0).bind fun n76 =>
                cond (decide (n76 < 0))
                (some ⟨1, [.sc (.bool false)], r73.H⟩)
                (cond (n76 != n72)
                 (some ⟨1, [.sc (.bool false)], r73.H⟩)
                 ((C (.fn F.wtoPauli) [.agg [.int .i64 a1_0, .int .i64 a1_1, .int .i64 a1_2]] r73.H).bind fun r77 =>
                  (oneP r77.vs).bind fun p78 =>
                  p78.agg?.bind fun l79 =>
                  cond (decide (l79.length = 3))
                  ((intAt .i64 l79 0).bind fun n80 =>
                   (intAt .i64 l79 1).bind fun n81 =>
                   (intAt .i64 l79 2).bind fun n82 =>
                   (C (.fn F.wtoTensor) [.agg [.sl a2_0, .sl a2_1, .sl a2_2]] r77.H).bind fun r83 =>
                   (oneP r83.vs).bind fun p84 =>
                   p84.agg?.bind fun l85 =>
                   cond (decide (l85.length = 3))
                   ((slAt l85 0).bind fun s86 =>
                    (slAt l85 1).bind fun s87 =>
                    (slAt l85 2).bind fun s88 =>
                    (C (.fn F.iApplyPauli) [.sc (.int .i64 a0), .agg [.int .i64 n80, .int .i64 n81, .int .i64 n82], .agg [.sl s86, .sl s87, .sl s88]] r83.H).bind fun r89 =>
                    (lenP r89.vs 2).bind fun _ =>
                    (nthP r89.vs 0).bind fun p90 =>
                    p90.agg?.bind fun l91 =>
                    cond (decide (l91.length = 3))
                    ((slAt l91 0).bind fun s92 =>
                     (slAt l91 1).bind fun s93 =>
                     (slAt l91 2).bind fun s94 =>
                     (nthP r89.vs 1).bind fun p95 =>
                     p95.sc?.bind fun c96 =>
                     (boolAt [c96] 0).bind fun b97 =>
                     (C (.fn F.weqTensor) [.agg [.sl s92, .sl s93, .sl s94], .agg [.sl s20, .sl s21, .sl s22]] r89.H).bind fun r98 =>
                     (oneP r98.vs).bind fun p99 =>
                     p99.sc?.bind fun c100 =>
                     (boolAt [c100] 0).bind fun b101 =>
                     cond (!b101)
                     (some ⟨1, [.sc (.bool false)], r98.H⟩)
                     (cond (b97 != b25)
                      (some ⟨1, [.sc (.bool false)], r98.H⟩)
                      ((C (.fn F.wheldTensor) [.agg [.sl s41, .sl s42, .sl s43], .sc (.int .i64 1)] r98.H).bind fun r102 =>
                       (oneP r102.vs).bind fun p103 =>
                       p103.sc?.bind fun c104 =>
                       (intAt .i64 [c104] 0).bind fun n105 =>
                       cond (decide (n105 < 0))
                       (some ⟨1, [.sc (.bool false)], r102.H⟩)
                       (cond (n105 != n72)
                        (some ⟨1, [.sc (.bool false)], r102.H⟩)
                        (some ⟨1, [.sc (.bool true)], r102.H⟩)))))
                    (none))
                   (none))
                  (none))))))))
           (none))))
        (none))
       (none))
      (none))
     (none))
    (none))
   (none)) := by kernel_rfl
/- loop.example/g03211/laws.FnExactRunCircuit -/
theorem e_wFnExactRunCircuit (C : Oracle) (a0_0 a0_1 : Int) (a0_2 a1_0 a1_1 a1_2 : Sl) (H : AH) : (procM P T C (.fn F.wFnExactRunCircuit) [.agg [.int .i64 a0_0, .int .i64 a0_1, .sl a0_2], .agg [.sl a1_0, .sl a1_1, .sl a1_2]] H).run =
  (C (.fn F.wszCircuit) [.agg [.int .i64 a0_0, .int .i64 a0_1, .sl a0_2], .sc (.int .i64 1048576)] H).bind fun r1 =>
  (oneP r1.vs).bind fun p2 =>
  p2.sc?.bind fun c3 =>
  (intAt .i64 [c3] 0).bind fun n4 =>
  cond (decide (n4 < 0))
  (some ⟨1, [.sc (.bool true)], r1.H⟩)
  ((C (.fn F.wszTensor) [.agg [.sl a1_0, .sl a1_1, .sl a1_2], .sc (.int .i64 n4)] r1.H).bind fun r5 =>
   (oneP r5.vs).bind fun p6 =>
   p6.sc?.bind fun c7 =>
   (intAt .i64 [c7] 0).bind fun n8 =>
   cond (decide (n8 < 0))
   (some ⟨1, [.sc (.bool true)], r5.H⟩)
   ((C (.fn F.wtoCircuit) [.agg [.int .i64 a0_0, .int .i64 a0_1, .sl a0_2]] r5.H).bind fun r9 =>
    (oneP r9.vs).bind fun p10 =>
    p10.agg?.bind fun l11 =>
    cond (decide (l11.length = 3))
    ((intAt .i64 l11 0).bind fun n12 =>
     (intAt .i64 l11 1).bind fun n13 =>
     (slAt l11 2).bind fun s14 =>
     (C (.fn F.wtoTensor) [.agg [.sl a1_0, .sl a1_1, .sl a1_2]] r9.H).bind fun r15 =>
     (oneP r15.vs).bind fun p16 =>
     p16.agg?.bind fun l17 =>
     cond (decide (l17.length = 3))
     ((slAt l17 0).bind fun s18 =>
      (slAt l17 1).bind fun s19 =>
      (slAt l17 2).bind fun s20 =>
      (C (.fn F.sRunCircuit) [.agg [.int .i64 n12, .int .i64 n13, .sl s14], .agg [.sl s18, .sl s19, .sl s20]] r15.H).bind fun r21 =>
      (lenP r21.vs 2).bind fun _ =>
      (nthP r21.vs 0).bind fun p22 =>
      p22.agg?.bind fun l23 =>
      cond (decide (l23.length = 3))
      ((slAt l23 0).bind fun s24 =>
       (slAt l23 1).bind fun s25 =>
       (slAt l23 2).bind fun s26 =>
       (nthP r21.vs 1).bind fun p27 =>
       p27.sc?.bind fun c28 =>
       (boolAt [c28] 0).bind fun b29 =>
       (C (.fn F.wtoCircuit) [.agg [.int .i64 a0_0, .int .i64 a0_1, .sl a0_2]] r21.H).bind fun r30 =>
       (oneP r30.vs).bind fun p31 =>
       p31.agg?.bind fun l32 =>
       cond (decide (l32.length = 3))
       ((intAt .i64 l32 0).bind fun n33 =>
        (intAt .i64 l32 1).bind fun n34 =>
        (slAt l32 2).bind fun s35 =>
        (C (.fn F.wtoTensor) [.agg [.sl a1_0, .sl a1_1, .sl a1_2]] r30.H).bind fun r36 =>
        (oneP r36.vs).bind fun p37 =>
        p37.agg?.bind fun l38 =>
        cond (decide (l38.length = 3))
        ((slAt l38 0).bind fun s39 =>
         (slAt l38 1).bind fun s40 =>
         (slAt l38 2).bind fun s41 =>
         (C (.fn F.iRunCircuit) [.agg [.int .i64 n33, .int .i64 n34, .sl s35], .agg [.sl s39, .sl s40, .sl s41]] r36.H).bind fun r42 =>
         (lenP r42.vs 2).bind fun _ =>
         (nthP r42.vs 0).bind fun p43 =>
         p43.agg?.bind fun l44 =>
         cond (decide (l44.length = 3))
         ((slAt l44 0).bind fun s45 =>
          (slAt l44 1).bind fun s46 =>
          (slAt l44 2).bind fun s47 =>
          (nthP r42.vs 1).bind fun p48 =>
          p48.sc?.bind fun c49 =>
          (boolAt [c49] 0).bind fun b50 =>
          (C (.fn F.weqTensor) [.agg [.sl s45, .sl s46, .sl s47], .agg [.sl s24, .sl s25, .sl s26]] r42.H).bind fun r51 =>
          (oneP r51.vs).bind fun p52 =>
          p52.sc?.bind fun c53 =>
          (boolAt [c53] 0).bind fun b54 =>
          cond (!b54)
          (some ⟨1, [.sc (.bool false)], r51.H⟩)
          (cond (b50 != b29)
           (some ⟨1, [.sc (.bool false)], r51.H⟩)
           ((C (.fn F.wtoCircuit) [.agg [.int .i64 a0_0, .int .i64 a0_1, .sl a0_2]] r51.H).bind fun r55 =>
            (oneP r55.vs).bind fun p56 =>
            p56.agg?.bind fun l57 =>
            cond (decide (l57.length = 3))
            ((intAt .i64 l57 0).bind fun n58 =>
             (intAt .i64 l57 1).bind fun n59 =>
             (slAt l57 2).bind fun s60 =>
             (C (.fn F.weqCircuit) [.agg [.int .i64 n33, .int .i64 n34, .sl s35], .agg [.int .i64 n58, .int .i64 n59, .sl s60]] r55.H).bind fun r61 =>
             (oneP r61.vs).bind fun p62 =>
             p62.sc?.bind fun c63 =>
             (boolAt [c63] 0).bind fun b64 =>
             cond (!b64)
             (some ⟨1, [.sc (.bool false)], r61.H⟩)
             ((C (.fn F.wtoTensor) [.agg [.sl a1_0, .sl a1_1, .sl a1_2]] r61.H).bind fun r65 =>
              (oneP r65.vs).bind fun p66 =>
              p66.agg?.bind fun l67 =>
              cond (decide (l67.length = 3))
              ((slAt l67 0).bind fun s68 =>
               (slAt l67 1).bind fun s69 =>
               (slAt l67 2).bind fun s70 =>
               (C (.fn F.weqTensor) [.agg [.sl s39, .sl s40, .sl s41], .agg [.sl s68, .sl s69, .sl s70]] r65.H).bind fun r71 =>
               (oneP r71.vs).bind fun p72 =>
               p72.sc?.bind fun c73 =>
               (boolAt [c73] 0).bind fun b74 =>
               cond (!b74)
               (some ⟨1, [.sc (.bool false)], r71.H⟩)
               ((C (.fn F.wmarkCircuit) [.agg [.int .i64 n33, .int .i64 n34, .sl s35], .sc (.int .i64 1)] r71.H).bind fun r75 =>
                (oneP r75.vs).bind fun p76 =>
                p76.sc?.bind fun c77 =>
                (intAt .i64 [c77] 0).bind fun n78 =>
                (C (.fn F.wmarkTensor) [.agg [.sl s39, .sl s40, .sl s41], .sc (.int .i64 n78)] r75.H).bind fun r79 =>
                (oneP r79.vs).bind fun p80 =>
                p80.sc?.bind fun c81 =>
                (intAt .i64 [c81] 0).bind fun n82 =>
                cond (decide (n82 < 0))
                (some ⟨1, [.sc (.bool false)], r79.H⟩)
                ((C (.fn F.weqTensor) [.agg [.sl s45, .sl s46, .sl s47], .agg [.sl s24, .sl s25, .sl s26]] r79.H).bind fun r83 =>
                 (oneP r83.vs).bind fun p84 =>
                 p84.sc?.bind fun c85 =>
                 (boolAt [c85] 0).bind fun b86 =>
                 cond (!b86)
                 (some ⟨1, [.sc (.bool false)], r83.H⟩)
                 (cond (b50 != b29)
                  (some ⟨1, [.sc (.bool false)], r83.H⟩)
                  ((C (.fn F.wmarkTensor) [.agg [.sl s45, .sl s46, .sl s47], .sc (.int .i64 1)] r83.H).bind fun r87 =>
                   (oneP r87.vs).bind fun p88 =>
                   p88.sc?.bind fun c89 =>
                   (intAt .i64 [c89] 0).bind fun n90 =>
                   (C (.fn F.wheldTensor) [.agg [.sl s45, .sl s46, .sl s47], .sc (.int .i64 1)] r87.H).bind fun r91 =>
                   (oneP r91.vs).bind fun p92 =>
                   p92.sc?.bind fun c93 =>
                   (intAt .i64 [c93] 0).bind fun n94 =>
                   cond (decide (n94 < 0))
                   (some ⟨1, [.sc (.bool false)], r91.H⟩)
                   (cond (n94 != n90)
                    (some ⟨1, [.sc (.bool false)], r91.H⟩)
                    ((C (.fn F.wtoCircuit) [.agg [.int .i64 a0_0, .int .i64 a0_1, .sl a0_2]] r91.H).bind fun r95 =>
                     (oneP r95.vs).bind fun p96 =>
                     p96.agg?.bind fun l97 =>
                     cond (decide (l97.length = 3))
                     ((intAt .i64 l97 0).bind fun n98 =>
                      (intAt .i64 l97 1).bind fun n99 =>
                      (slAt l97 2).bind fun s100 =>
                      (C (.fn F.wtoTensor) [.agg [.sl a1_0, .sl a1_1, .sl a1_2]] r95.H).bind fun r101 =>
                      (oneP r101.vs).bind fun p102 =>
                      p102.agg?.bind fun l103 =>
                      cond (decide (l103.length = 3))
                      ((slAt l103 0).bind fun s104 =>
                       (slAt l103 1).bind fun s105 =>
                       (slAt l103 2).bind fun s106 =>
                       (C (.fn F.iRunCircuit) [.agg [.int .i64 n98, .int .i64 n99, .sl s100], .agg [.sl s104, .sl s105, .sl s106]] r101.H).bind fun r107 =>
                       (lenP r107.vs 2).bind fun _ =>
                       (nthP r107.vs 0).bind fun p108 =>
                       p108.agg?.bind fun l109 =>
                       cond (decide (l109.length = 3))
                       ((slAt l109 0).bind fun s110 =>
                        (slAt l109 1).bind fun s111 =>
                        (slAt l109 2).bind fun s112 =>
                        (nthP r107.vs 1).bind fun p113 =>
                        p113.sc?.bind fun c114 =>
                        (boolAt [c114] 0).bind fun b115 =>
                        (C (.fn F.weqTensor) [.agg [.sl s110, .sl s111, .sl s112], .agg [.sl s24, .sl s25, .sl s26]] r107.H).bind fun r116 =>
                        (oneP r116.vs).bind fun p117 =>
                        p117.sc?.bind fun c118 =>
                        (boolAt [c118] 0).bind fun b119 =>
                        cond (!b119)
                        (some ⟨1, [.sc (.bool false)], r116.H⟩)
                        (cond (b115 != b29)
                         (some ⟨1, [.sc (.bool false)], r116.H⟩)
                         ((C (.fn F.wheldTensor) [.agg [.sl s45, .sl s46, .sl s47], .sc (.int .i64 1)] r116.H).bind fun r120 =>
                          (oneP r120.vs).bind fun p121 =>
                          p121.sc?.bind fun c122 =>
                          (intAt .i64 [c122] 0).bind fun n123 =>
                          cond (decide (n123 < 0))
                          (some ⟨1, [.sc (.bool false)], r120.H⟩)
                          (cond (n123 != n90)
                           (some ⟨1, [.sc (.bool false)], r120.H⟩)
                           (some ⟨1, [.sc (.bool true)], r120.H⟩)))))
                       (none))
                      (none))
                     (none))))))))
              (none)))
            (none))))
         (none))
        (none))
       (none))
      (none))
     (none))
    (none))) := by kernel_rfl
/- loop.example/g03211/laws.szTensor -/
theorem e_wszTensor (C : Oracle) (a0_0 a0_1 a0_2 : Sl) (a1 : Int) (H : AH) : (procM P T C (.fn F.wszTensor) [.agg [.sl a0_0, .sl a0_1, .sl a0_2], .sc (.int .i64 a1)] H).run =
  (C (.fn F.wszIntS) [.sc (.sl a0_0), .sc (.int .i64 a1)] H).bind fun r1 =>
  (oneP r1.vs).bind fun p2 =>
  p2.sc?.bind fun c3 =>
  (intAt .i64 [c3] 0).bind fun n4 =>
  cond (decide (n4 < 0))
  (some ⟨1, [.sc (.int .i64 (-1))], r1.H⟩)
  ((C (.fn F.wszIntS) [.sc (.sl a0_1), .sc (.int .i64 n4)] r1.H).bind fun r5 =>
   (oneP r5.vs).bind fun p6 =>
   p6.sc?.bind fun c7 =>
   (intAt .i64 [c7] 0).bind fun n8 =>
   cond (decide (n8 < 0))
   (some ⟨1, [.sc (.int .i64 (-1))], r5.H⟩)
   ((C (.fn F.wszIntS) [.sc (.sl a0_2), .sc (.int .i64 n8)] r5.H).bind fun r9 =>
    (oneP r9.vs).bind fun p10 =>
    p10.sc?.bind fun c11 =>
    (intAt .i64 [c11] 0).bind fun n12 =>
    cond (decide (n12 < 0))
    (some ⟨1, [.sc (.int .i64 (-1))], r9.H⟩)
    (some ⟨1, [.sc (.int .i64 n12)], r9.H⟩))) := by kernel_rfl
/- loop.example/g03211/spec.ApplyPauli -/
theorem e_sApplyPauli_0 (C : Oracle) (x8 x13 y4_0 y4_1 y4_2 : Int) (y5_0 y5_1 y5_2 : Sl) (y11_0 y11_1 y11_2 : Int) (y12_0 y12_1 y12_2 : Sl) (H : AH) : (procM P T C (.loop F.sApplyPauli 0) [.sc (.int .i64 x8), .sc (.int .i64 x13), .agg [.int .i64 y4_0, .int .i64 y4_1, .int .i64 y4_2], .agg [.sl y5_0, .sl y5_1, .sl y5_2], .agg [.int .i64 y11_0, .int .i64 y11_1, .int .i64 y11_2], .agg [.sl y12_0, .sl y12_1, .sl y12_2]] H).run =
  cond (decide (x8 < 0))
  (none)
  (cond (decide (x13 < (shlL .i64 1 x8)))
   ((C (.fn F.sl05Index) [.sc (.sl y5_1), .sc (.int .i64 x13)] H).bind fun r38 =>
    (oneP r38.vs).bind fun p39 =>
    p39.sc?.bind fun c40 =>
    (slAt [c40] 0).bind fun s41 =>
    (C (.loop F.sApplyPauli 1) [.sc (.sl s41), .sc (.int .i64 (IntKind.wrap .i64 (4 * y4_2))), .sc (.sl s41), .sc (.int .i64 (s41.n : Int)), .sc (.int .i64 0), .agg [.int .i64 y4_0, .int .i64 y4_1, .int .i64 y4_2]] r38.H).bind fun r47 =>
    cond (Nat.beq r47.e 4)
    ((nthP r47.vs 0).bind fun p48 =>
     p48.sc?.bind fun c49 =>
     (intAt .i64 [c49] 0).bind fun n50 =>
     (newB r47.H 1 [.int .i64 0, .int .i64 1, .int .i64 0, .int .i64 0]).bind fun h51 =>
     (C (.fn F.sPowElem) [.agg [.int .i64 y11_0, .int .i64 y11_1, .int .i64 y11_2], .sc (.sl ⟨h51.1, 0, 4, 4, true⟩), .sc (.int .i64 n50)] h51.2).bind fun r52 =>
     (oneP r52.vs).bind fun p53 =>
     p53.sc?.bind fun c54 =>
     (slAt [c54] 0).bind fun s55 =>
     (C (.fn F.sl05Offset) [.sc (.sl y5_1), .sc (.sl s41)] r52.H).bind fun r56 =>
     (oneP r56.vs).bind fun p57 =>
     p57.sc?.bind fun c58 =>
     (intAt .i64 [c58] 0).bind fun n59 =>
     (C (.fn F.sl05Get) [.agg [.int .i64 y11_0, .int .i64 y11_1, .int .i64 y11_2], .agg [.sl y5_0, .sl y5_1, .sl y5_2], .sc (.int .i64 x13)] r56.H).bind fun r60 =>
     (oneP r60.vs).bind fun p61 =>
     p61.sc?.bind fun c62 =>
     (slAt [c62] 0).bind fun s63 =>
     (C (.fn F.sl02Mul) [.agg [.int .i64 y11_0, .int .i64 y11_1, .int .i64 y11_2], .sc (.sl s55), .sc (.sl s63)] r60.H).bind fun r64 =>
     (oneP r64.vs).bind fun p65 =>
     p65.sc?.bind fun c66 =>
     (slAt [c66] 0).bind fun s67 =>
     (C (.fn F.sl05Put) [.agg [.int .i64 y11_0, .int .i64 y11_1, .int .i64 y11_2], .agg [.sl y12_0, .sl y12_1, .sl y12_2], .sc (.int .i64 n59), .sc (.sl s67)] r64.H).bind fun r68 =>
     C (.loop F.sApplyPauli 0) [.sc (.int .i64 x8), .sc (.int .i64 (IntKind.wrap .i64 (x13 + 1))), .agg [.int .i64 y4_0, .int .i64 y4_1, .int .i64 y4_2], .agg [.sl y5_0, .sl y5_1, .sl y5_2], .agg [.int .i64 y11_0, .int .i64 y11_1, .int .i64 y11_2], .agg [.sl y12_0, .sl y12_1, .sl y12_2]] r68.H)
    (none))
   (some ⟨2, [], H⟩)) := by kernel_rfl
theorem e_sApplyPauli_1 (C : Oracle) (x14 : Sl) (x15 : Int) (x78 : Sl) (x79 x80 y4_0 y4_1 y4_2 : Int) (H : AH) : (procM P T C (.loop F.sApplyPauli 1) [.sc (.sl x14), .sc (.int .i64 x15), .sc (.sl x78), .sc (.int .i64 x79), .sc (.int .i64 x80), .agg [.int .i64 y4_0, .int .i64 y4_1, .int .i64 y4_2]] H).run =
  cond (decide (x80 < x79))
  ((ixA x78 x80 1).bind fun o42 =>
   (rdB H x78.b).bind fun c43 =>
   (intAt .i64 c43 o42).bind fun n44 =>
   cond (decide (x80 < 0))
   (none)
   (cond (decide (x80 < 0))
    (none)
    (cond ((bitAnd .i64 (shlR .i64 y4_0 x80) 1) == 1)
     ((ixA x14 x80 1).bind fun o45 =>
      (putR H x14.b o45 [.int .i64 (IntKind.wrap .i64 (1 - n44))]).bind fun H46 =>
      C (.loop F.sApplyPauli 1) [.sc (.sl x14), .sc (.int .i64 (IntKind.wrap .i64 ((IntKind.wrap .i64 (x15 + (IntKind.wrap .i64 ((IntKind.wrap .i64 (4 * n44)) * (bitAnd .i64 (shlR .i64 y4_1 x80) 1))))) + (IntKind.wrap .i64 ((IntKind.wrap .i64 (2 * (bitAnd .i64 (shlR .i64 y4_0 x80) 1))) * (bitAnd .i64 (shlR .i64 y4_1 x80) 1)))))), .sc (.sl x78), .sc (.int .i64 x79), .sc (.int .i64 (IntKind.wrap .i64 (x80 + 1))), .agg [.int .i64 y4_0, .int .i64 y4_1, .int .i64 y4_2]] H46)
     (C (.loop F.sApplyPauli 1) [.sc (.sl x14), .sc (.int .i64 (IntKind.wrap .i64 ((IntKind.wrap .i64 (x15 + (IntKind.wrap .i64 ((IntKind.wrap .i64 (4 * n44)) * (bitAnd .i64 (shlR .i64 y4_1 x80) 1))))) + (IntKind.wrap .i64 ((IntKind.wrap .i64 (2 * (bitAnd .i64 (shlR .i64 y4_0 x80) 1))) * (bitAnd .i64 (shlR .i64 y4_1 x80) 1)))))), .sc (.sl x78), .sc (.int .i64 x79), .sc (.int .i64 (IntKind.wrap .i64 (x80 + 1))), .agg [.int .i64 y4_0, .int .i64 y4_1, .int .i64 y4_2]] H))))
  (some ⟨4, [.sc (.int .i64 x15)], H⟩) := by kernel_rfl
theorem e_sApplyPauli (C : Oracle) (a0 a1_0 a1_1 a1_2 : Int) (a2_0 a2_1 a2_2 : Sl) (H : AH) : (procM P T C (.fn F.sApplyPauli) [.sc (.int .i64 a0), .agg [.int .i64 a1_0, .int .i64 a1_1, .int .i64 a1_2], .agg [.sl a2_0, .sl a2_1, .sl a2_2]] H).run =
  (C (.fn F.sBasisState) [.sc (.int .i64 a0), .sc (.int .i64 (a2_0.n : Int)), .sc (.int .i64 0)] H).bind fun r1 =>
  (lenP r1.vs 2).bind fun _ =>
  (nthP r1.vs 0).bind fun p2 =>
  p2.agg?.bind fun l3 =>
  cond (decide (l3.length = 3))
  ((slAt l3 0).bind fun s4 =>
   (slAt l3 1).bind fun s5 =>
   (slAt l3 2).bind fun s6 =>
   (nthP r1.vs 1).bind fun p7 =>
   p7.sc?.bind fun c8 =>
   (boolAt [c8] 0).bind fun b9 =>
   (C (.fn F.sl40Ring) [.sc (.int .i64 a0)] r1.H).bind fun r10 =>
   (oneP r10.vs).bind fun p11 =>
   p11.agg?.bind fun l12 =>
   cond (decide (l12.length = 3))
   ((intAt .i64 l12 0).bind fun n13 =>
    (intAt .i64 l12 1).bind fun n14 =>
    (intAt .i64 l12 2).bind fun n15 =>
    cond (!b9)
    (some ⟨1, [.agg [.sl ⟨0, 0, 0, 0, true⟩, .sl ⟨0, 0, 0, 0, true⟩, .sl ⟨0, 0, 0, 0, true⟩], .sc (.bool false)], r10.H⟩)
    ((C (.fn F.sPauliOk) [.sc (.int .i64 (a2_0.n : Int)), .agg [.int .i64 a1_0, .int .i64 a1_1, .int .i64 a1_2]] r10.H).bind fun r16 =>
     (oneP r16.vs).bind fun p17 =>
     p17.sc?.bind fun c18 =>
     (boolAt [c18] 0).bind fun b19 =>
     cond (!b19)
     (some ⟨1, [.agg [.sl ⟨0, 0, 0, 0, true⟩, .sl ⟨0, 0, 0, 0, true⟩, .sl ⟨0, 0, 0, 0, true⟩], .sc (.bool false)], r16.H⟩)
     ((C (.fn F.sTensorOk) [.agg [.int .i64 n13, .int .i64 n14, .int .i64 n15], .agg [.sl a2_0, .sl a2_1, .sl a2_2]] r16.H).bind fun r20 =>
      (oneP r20.vs).bind fun p21 =>
      p21.sc?.bind fun c22 =>
      (boolAt [c22] 0).bind fun b23 =>
      cond (!b23)
      (some ⟨1, [.agg [.sl ⟨0, 0, 0, 0, true⟩, .sl ⟨0, 0, 0, 0, true⟩, .sl ⟨0, 0, 0, 0, true⟩], .sc (.bool false)], r20.H⟩)
      ((C (.fn F.sl06Equal) [.sc (.sl a2_0), .sc (.sl s4)] r20.H).bind fun r24 =>
       (oneP r24.vs).bind fun p25 =>
       p25.sc?.bind fun c26 =>
       (boolAt [c26] 0).bind fun b27 =>
       cond (!b27)
       (some ⟨1, [.agg [.sl ⟨0, 0, 0, 0, true⟩, .sl ⟨0, 0, 0, 0, true⟩, .sl ⟨0, 0, 0, 0, true⟩], .sc (.bool false)], r24.H⟩)
       ((C (.fn F.sl06Equal) [.sc (.sl a2_1), .sc (.sl s5)] r24.H).bind fun r28 =>
        (oneP r28.vs).bind fun p29 =>
        p29.sc?.bind fun c30 =>
        (boolAt [c30] 0).bind fun b31 =>
        cond (!b31)
        (some ⟨1, [.agg [.sl ⟨0, 0, 0, 0, true⟩, .sl ⟨0, 0, 0, 0, true⟩, .sl ⟨0, 0, 0, 0, true⟩], .sc (.bool false)], r28.H⟩)
        ((C (.fn F.sl05Copy) [.agg [.sl a2_0, .sl a2_1, .sl a2_2]] r28.H).bind fun r32 =>
         (oneP r32.vs).bind fun p33 =>
         p33.agg?.bind fun l34 =>
         cond (decide (l34.length = 3))
         ((slAt l34 0).bind fun s35 =>
          (slAt l34 1).bind fun s36 =>
          (slAt l34 2).bind fun s37 =>
          (C (.loop F.sApplyPauli 0) [.sc (.int .i64 (a2_0.n : Int)), .sc (.int .i64 0), .agg [.int .i64 a1_0, .int .i64 a1_1, .int .i64 a1_2], .agg [.sl a2_0, .sl a2_1, .sl a2_2], .agg [.int .i64 n13, .int .i64 n14, .int .i64 n15], .agg [.sl s35, .sl s36, .sl s37]] r32.H).bind fun r69 =>
          cond (Nat.beq r69.e 2)
          (some ⟨1, [.agg [.sl s35, .sl s36, .sl s37], .sc (.bool true)], r69.H⟩)
          (none))
         (none)))))))
   (none))
  (none) := by kernel_rfl
/- loop.example/g03211/laws.toPauli -/
theorem e_wtoPauli (C : Oracle) (a0_0 a0_1 a0_2 : Int) (H : AH) : (procM P T C (.fn F.wtoPauli) [.agg [.int .i64 a0_0, .int .i64 a0_1, .int .i64 a0_2]] H).run =
  some ⟨1, [.agg [.int .i64 a0_0, .int .i64 a0_1, .int .i64 a0_2]], H⟩ := by kernel_rfl
/- loop.example/g03211/laws.toTensor -/
theorem e_wtoTensor (C : Oracle) (a0_0 a0_1 a0_2 : Sl) (H : AH) : (procM P T C (.fn F.wtoTensor) [.agg [.sl a0_0, .sl a0_1, .sl a0_2]] H).run =
  (C (.fn F.wtoIntS) [.sc (.sl a0_0)] H).bind fun r1 =>
  (oneP r1.vs).bind fun p2 =>
  p2.sc?.bind fun c3 =>
  (slAt [c3] 0).bind fun s4 =>
  (C (.fn F.wtoIntS) [.sc (.sl a0_1)] r1.H).bind fun r5 =>
  (oneP r5.vs).bind fun p6 =>
  p6.sc?.bind fun c7 =>
  (slAt [c7] 0).bind fun s8 =>
  (C (.fn F.wtoIntS) [.sc (.sl a0_2)] r5.H).bind fun r9 =>
  (oneP r9.vs).bind fun p10 =>
  p10.sc?.bind fun c11 =>
  (slAt [c11] 0).bind fun s12 =>
  some ⟨1, [.agg [.sl s4, .sl s8, .sl s12]], r9.H⟩ := by kernel_rfl
/- loop.example/g03211/impl.ApplyPauli -/
theorem e_iApplyPauli_0 (C : Oracle) (x0 x8 : Int) (x10 : Sl) (x11 y4_0 y4_1 y4_2 : Int) (y9_0 y9_1 y9_2 : Sl) (H : AH) : (procM P T C (.loop F.iApplyPauli 0) [.sc (.int .i64 x0), .sc (.int .i64 x8), .sc (.sl x10), .sc (.int .i64 x11), .agg [.int .i64 y4_0, .int .i64 y4_1, .int .i64 y4_2], .agg [.sl y9_0, .sl y9_1, .sl y9_2]] H).run =
  cond (decide (x11 < x8))
  (cond (decide (x11 < 0))
   (none)
   (cond (decide (x11 < 0))
    (none)
    (((cond ((bitAnd .i64 (shlR .i64 y4_0 x11) 1) == 1)
   (some ⟨0, [.sc (.bool ((bitAnd .i64 (shlR .i64 y4_1 x11) 1) == 1))], H⟩)
   (some ⟨0, [.sc (.bool false)], H⟩) : Option Out)).bind fun r16 =>
     cond (Nat.beq r16.e 0)
     ((nthP r16.vs 0).bind fun p17 =>
      p17.sc?.bind fun c18 =>
      (boolAt [c18] 0).bind fun b19 =>
      cond b19
      ((newAt (reserve r16.H 2) (r16.H.length + 0) 1 [.int .i64 x11]).bind fun h20 =>
       (C (.fn F.irootElem) [.sc (.int .i64 x0), .sc (.int .i64 6)] (h20.2.set (r16.H.length + 0) deadB)).bind fun r21 =>
       (oneP r21.vs).bind fun p22 =>
       p22.sc?.bind fun c23 =>
       (slAt [c23] 0).bind fun s24 =>
       cond (decide (r21.H.length ≥ h20.2.length))
       ((C (.fn F.irootElem) [.sc (.int .i64 x0), .sc (.int .i64 2)] ((restB h20.2 r21.H (r16.H.length + 0)).set (r16.H.length + 0) deadB)).bind fun r25 =>
        (oneP r25.vs).bind fun p26 =>
        p26.sc?.bind fun c27 =>
        (slAt [c27] 0).bind fun s28 =>
        cond (decide (r25.H.length ≥ (restB h20.2 r21.H (r16.H.length + 0)).length))
        ((newAt (restB (restB h20.2 r21.H (r16.H.length + 0)) r25.H (r16.H.length + 0)) (r16.H.length + 1) 1 [.sl x10, .sl s24, .sl s28, .sl x10]).bind fun h29 =>
         (C (.fn F.iapplyMatrix) [.sc (.int .i64 x0), .agg [.sl y9_0, .sl y9_1, .sl y9_2], .sc (.sl ⟨h20.1, 0, 1, 1, true⟩), .sc (.sl ⟨h29.1, 0, 4, 4, true⟩)] h29.2).bind fun r30 =>
         (oneP r30.vs).bind fun p31 =>
         p31.agg?.bind fun l32 =>
         cond (decide (l32.length = 3))
         ((slAt l32 0).bind fun s33 =>
          (slAt l32 1).bind fun s34 =>
          (slAt l32 2).bind fun s35 =>
          C (.loop F.iApplyPauli 0) [.sc (.int .i64 x0), .sc (.int .i64 x8), .sc (.sl x10), .sc (.int .i64 (IntKind.wrap .i64 (x11 + 1))), .agg [.int .i64 y4_0, .int .i64 y4_1, .int .i64 y4_2], .agg [.sl s33, .sl s34, .sl s35]] r30.H)
         (none))
        (none))
       (none))
      (cond ((bitAnd .i64 (shlR .i64 y4_0 x11) 1) == 1)
       ((newAt (reserve r16.H 1) (r16.H.length + 0) 1 [.int .i64 x11]).bind fun h36 =>
        (C (.fn F.igateMatrix) [.sc (.int .i64 x0), .sc (.int .i64 1)] (h36.2.set (r16.H.length + 0) deadB)).bind fun r37 =>
        (oneP r37.vs).bind fun p38 =>
        p38.sc?.bind fun c39 =>
        (slAt [c39] 0).bind fun s40 =>
        cond (decide (r37.H.length ≥ h36.2.length))
        ((C (.fn F.iapplyMatrix) [.sc (.int .i64 x0), .agg [.sl y9_0, .sl y9_1, .sl y9_2], .sc (.sl ⟨h36.1, 0, 1, 1, true⟩), .sc (.sl s40)] (restB h36.2 r37.H (r16.H.length + 0))).bind fun r41 =>
         (oneP r41.vs).bind fun p42 =>
         p42.agg?.bind fun l43 =>
         cond (decide (l43.length = 3))
         ((slAt l43 0).bind fun s44 =>
          (slAt l43 1).bind fun s45 =>
          (slAt l43 2).bind fun s46 =>
          C (.loop F.iApplyPauli 0) [.sc (.int .i64 x0), .sc (.int .i64 x8), .sc (.sl x10), .sc (.int .i64 (IntKind.wrap .i64 (x11 + 1))), .agg [.int .i64 y4_0, .int .i64 y4_1, .int .i64 y4_2], .agg [.sl s44, .sl s45, .sl s46]] r41.H)
         (none))
        (none))
       (cond ((bitAnd .i64 (shlR .i64 y4_1 x11) 1) == 1)
        ((newAt (reserve r16.H 1) (r16.H.length + 0) 1 [.int .i64 x11]).bind fun h47 =>
         (C (.fn F.igateMatrix) [.sc (.int .i64 x0), .sc (.int .i64 2)] (h47.2.set (r16.H.length + 0) deadB)).bind fun r48 =>
         (oneP r48.vs).bind fun p49 =>
         p49.sc?.bind fun c50 =>
         (slAt [c50] 0).bind fun s51 =>
         cond (decide (r48.H.length ≥ h47.2.length))
         ((C (.fn F.iapplyMatrix) [.sc (.int .i64 x0), .agg [.sl y9_0, .sl y9_1, .sl y9_2], .sc (.sl ⟨h47.1, 0, 1, 1, true⟩), .sc (.sl s51)] (restB h47.2 r48.H (r16.H.length + 0))).bind fun r52 =>
          (oneP r52.vs).bind fun p53 =>
          p53.agg?.bind fun l54 =>
          cond (decide (l54.length = 3))
          ((slAt l54 0).bind fun s55 =>
           (slAt l54 1).bind fun s56 =>
           (slAt l54 2).bind fun s57 =>
           C (.loop F.iApplyPauli 0) [.sc (.int .i64 x0), .sc (.int .i64 x8), .sc (.sl x10), .sc (.int .i64 (IntKind.wrap .i64 (x11 + 1))), .agg [.int .i64 y4_0, .int .i64 y4_1, .int .i64 y4_2], .agg [.sl s55, .sl s56, .sl s57]] r52.H)
          (none))
         (none))
        (C (.loop F.iApplyPauli 0) [.sc (.int .i64 x0), .sc (.int .i64 x8), .sc (.sl x10), .sc (.int .i64 (IntKind.wrap .i64 (x11 + 1))), .agg [.int .i64 y4_0, .int .i64 y4_1, .int .i64 y4_2], .agg [.sl y9_0, .sl y9_1, .sl y9_2]] r16.H))))
     (none))))
  (some ⟨2, [.agg [.sl y9_0, .sl y9_1, .sl y9_2]], H⟩) := by kernel_rfl
theorem e_iApplyPauli (C : Oracle) (a0 a1_0 a1_1 a1_2 : Int) (a2_0 a2_1 a2_2 : Sl) (H : AH) : (procM P T C (.fn F.iApplyPauli) [.sc (.int .i64 a0), .agg [.int .i64 a1_0, .int .i64 a1_1, .int .i64 a1_2], .agg [.sl a2_0, .sl a2_1, .sl a2_2]] H).run =
  (C (.fn F.istateOk) [.sc (.int .i64 a0), .sc (.int .i64 (a2_0.n : Int)), .agg [.sl a2_0, .sl a2_1, .sl a2_2]] H).bind fun r1 =>
  (oneP r1.vs).bind fun p2 =>
  p2.sc?.bind fun c3 =>
  (boolAt [c3] 0).bind fun b4 =>
  cond (!b4)
  (some ⟨1, [.agg [.sl ⟨0, 0, 0, 0, true⟩, .sl ⟨0, 0, 0, 0, true⟩, .sl ⟨0, 0, 0, 0, true⟩], .sc (.bool false)], r1.H⟩)
  ((C (.fn F.iPauliOk) [.sc (.int .i64 (a2_0.n : Int)), .agg [.int .i64 a1_0, .int .i64 a1_1, .int .i64 a1_2]] r1.H).bind fun r5 =>
   (oneP r5.vs).bind fun p6 =>
   p6.sc?.bind fun c7 =>
   (boolAt [c7] 0).bind fun b8 =>
   cond (!b8)
   (some ⟨1, [.agg [.sl ⟨0, 0, 0, 0, true⟩, .sl ⟨0, 0, 0, 0, true⟩, .sl ⟨0, 0, 0, 0, true⟩], .sc (.bool false)], r5.H⟩)
   ((C (.fn F.icopyTensor) [.agg [.sl a2_0, .sl a2_1, .sl a2_2]] r5.H).bind fun r9 =>
    (oneP r9.vs).bind fun p10 =>
    p10.agg?.bind fun l11 =>
    cond (decide (l11.length = 3))
    ((slAt l11 0).bind fun s12 =>
     (slAt l11 1).bind fun s13 =>
     (slAt l11 2).bind fun s14 =>
     (mkB r9.H 1 8 [.int .i64 0] 4 4).bind fun m15 =>
     (C (.loop F.iApplyPauli 0) [.sc (.int .i64 a0), .sc (.int .i64 (a2_0.n : Int)), .sc (.sl m15.1), .sc (.int .i64 0), .agg [.int .i64 a1_0, .int .i64 a1_1, .int .i64 a1_2], .agg [.sl s12, .sl s13, .sl s14]] m15.2).bind fun r58 =>
     cond (Nat.beq r58.e 2)
     (((nthP r58.vs 0).bind PV.agg?).bind fun l59 =>
      cond (decide (l59.length = 3))
      ((slAt l59 0).bind fun s60 =>
       (slAt l59 1).bind fun s61 =>
       (slAt l59 2).bind fun s62 =>
       cond (a1_2 == 1)
       ((C (.fn F.iomegaRing) [.sc (.int .i64 a0)] r58.H).bind fun r63 =>
        (oneP r63.vs).bind fun p64 =>
        p64.agg?.bind fun l65 =>
        cond (decide (l65.length = 3))
        ((intAt .i64 l65 0).bind fun n66 =>
         (intAt .i64 l65 1).bind fun n67 =>
         (intAt .i64 l65 2).bind fun n68 =>
         (C (.fn F.irootElem) [.sc (.int .i64 a0), .sc (.int .i64 4)] r63.H).bind fun r69 =>
         (oneP r69.vs).bind fun p70 =>
         p70.sc?.bind fun c71 =>
         (slAt [c71] 0).bind fun s72 =>
         (C (.fn F.iScaleTensor) [.agg [.int .i64 n66, .int .i64 n67, .int .i64 n68], .agg [.sl s60, .sl s61, .sl s62], .sc (.sl s72)] r69.H).bind fun r73 =>
         (oneP r73.vs).bind fun p74 =>
         p74.agg?.bind fun l75 =>
         cond (decide (l75.length = 3))
         ((slAt l75 0).bind fun s76 =>
          (slAt l75 1).bind fun s77 =>
          (slAt l75 2).bind fun s78 =>
          some ⟨1, [.agg [.sl s76, .sl s77, .sl s78], .sc (.bool true)], r73.H⟩)
         (none))
        (none))
       (some ⟨1, [.agg [.sl s60, .sl s61, .sl s62], .sc (.bool true)], r58.H⟩))
      (none))
     (none))
    (none))) := by kernel_rfl
/- loop.example/g03211/laws.eqTensor -/
theorem e_weqTensor (C : Oracle) (a0_0 a0_1 a0_2 a1_0 a1_1 a1_2 : Sl) (H : AH) : (procM P T C (.fn F.weqTensor) [.agg [.sl a0_0, .sl a0_1, .sl a0_2], .agg [.sl a1_0, .sl a1_1, .sl a1_2]] H).run =
  (C (.fn F.weqIntS) [.sc (.sl a0_0), .sc (.sl a1_0)] H).bind fun r1 =>
  (oneP r1.vs).bind fun p2 =>
  p2.sc?.bind fun c3 =>
  (boolAt [c3] 0).bind fun b4 =>
  cond (!b4)
  (some ⟨1, [.sc (.bool false)], r1.H⟩)
  ((C (.fn F.weqIntS) [.sc (.sl a0_1), .sc (.sl a1_1)] r1.H).bind fun r5 =>
   (oneP r5.vs).bind fun p6 =>
   p6.sc?.bind fun c7 =>
   (boolAt [c7] 0).bind fun b8 =>
   cond (!b8)
   (some ⟨1, [.sc (.bool false)], r5.H⟩)
   ((C (.fn F.weqIntS) [.sc (.sl a0_2), .sc (.sl a1_2)] r5.H).bind fun r9 =>
    (oneP r9.vs).bind fun p10 =>
    p10.sc?.bind fun c11 =>
    (boolAt [c11] 0).bind fun b12 =>
    cond (!b12)
    (some ⟨1, [.sc (.bool false)], r9.H⟩)
    (some ⟨1, [.sc (.bool true)], r9.H⟩))) := by kernel_rfl
/- loop.example/g03211/laws.markTensor -/
theorem e_wmarkTensor (C : Oracle) (a0_0 a0_1 a0_2 : Sl) (a1 : Int) (H : AH) : (procM P T C (.fn F.wmarkTensor) [.agg [.sl a0_0, .sl a0_1, .sl a0_2], .sc (.int .i64 a1)] H).run =
  (C (.fn F.wmarkIntS) [.sc (.sl a0_0), .sc (.int .i64 a1)] H).bind fun r1 =>
  (oneP r1.vs).bind fun p2 =>
  p2.sc?.bind fun c3 =>
  (intAt .i64 [c3] 0).bind fun n4 =>
  (C (.fn F.wmarkIntS) [.sc (.sl a0_1), .sc (.int .i64 n4)] r1.H).bind fun r5 =>
  (oneP r5.vs).bind fun p6 =>
  p6.sc?.bind fun c7 =>
  (intAt .i64 [c7] 0).bind fun n8 =>
  (C (.fn F.wmarkIntS) [.sc (.sl a0_2), .sc (.int .i64 n8)] r5.H).bind fun r9 =>
  (oneP r9.vs).bind fun p10 =>
  p10.sc?.bind fun c11 =>
  (intAt .i64 [c11] 0).bind fun n12 =>
  some ⟨1, [.sc (.int .i64 n12)], r9.H⟩ := by kernel_rfl
/- loop.example/g03211/laws.heldTensor -/
theorem e_wheldTensor (C : Oracle) (a0_0 a0_1 a0_2 : Sl) (a1 : Int) (H : AH) : (procM P T C (.fn F.wheldTensor) [.agg [.sl a0_0, .sl a0_1, .sl a0_2], .sc (.int .i64 a1)] H).run =
  (C (.fn F.wheldIntS) [.sc (.sl a0_0), .sc (.int .i64 a1)] H).bind fun r1 =>
  (oneP r1.vs).bind fun p2 =>
  p2.sc?.bind fun c3 =>
  (intAt .i64 [c3] 0).bind fun n4 =>
  cond (decide (n4 < 0))
  (some ⟨1, [.sc (.int .i64 (-1))], r1.H⟩)
  ((C (.fn F.wheldIntS) [.sc (.sl a0_1), .sc (.int .i64 n4)] r1.H).bind fun r5 =>
   (oneP r5.vs).bind fun p6 =>
   p6.sc?.bind fun c7 =>
   (intAt .i64 [c7] 0).bind fun n8 =>
   cond (decide (n8 < 0))
   (some ⟨1, [.sc (.int .i64 (-1))], r5.H⟩)
   ((C (.fn F.wheldIntS) [.sc (.sl a0_2), .sc (.int .i64 n8)] r5.H).bind fun r9 =>
    (oneP r9.vs).bind fun p10 =>
    p10.sc?.bind fun c11 =>
    (intAt .i64 [c11] 0).bind fun n12 =>
    cond (decide (n12 < 0))
    (some ⟨1, [.sc (.int .i64 (-1))], r9.H⟩)
    (some ⟨1, [.sc (.int .i64 n12)], r9.H⟩))) := by kernel_rfl
/- loop.example/g03211/laws.szCircuit -/
theorem e_wszCircuit (C : Oracle) (a0_0 a0_1 : Int) (a0_2 : Sl) (a1 : Int) (H : AH) : (procM P T C (.fn F.wszCircuit) [.agg [.int .i64 a0_0, .int .i64 a0_1, .sl a0_2], .sc (.int .i64 a1)] H).run =
  (C (.fn F.wszGateS) [.sc (.sl a0_2), .sc (.int .i64 a1)] H).bind fun r1 =>
  (oneP r1.vs).bind fun p2 =>
  p2.sc?.bind fun c3 =>
  (intAt .i64 [c3] 0).bind fun n4 =>
  cond (decide (n4 < 0))
  (some ⟨1, [.sc (.int .i64 (-1))], r1.H⟩)
  (some ⟨1, [.sc (.int .i64 n4)], r1.H⟩) := by kernel_rfl
/- loop.example/g03211/laws.toCircuit -/
theorem e_wtoCircuit (C : Oracle) (a0_0 a0_1 : Int) (a0_2 : Sl) (H : AH) : (procM P T C (.fn F.wtoCircuit) [.agg [.int .i64 a0_0, .int .i64 a0_1, .sl a0_2]] H).run =
  (C (.fn F.wtoGateS) [.sc (.sl a0_2)] H).bind fun r1 =>
  (oneP r1.vs).bind fun p2 =>
  p2.sc?.bind fun c3 =>
  (slAt [c3] 0).bind fun s4 =>
  some ⟨1, [.agg [.int .i64 a0_0, .int .i64 a0_1, .sl s4]], r1.H⟩ := by kernel_rfl
/- loop.example/g03211/laws.eqCircuit -/
theorem e_weqCircuit (C : Oracle) (a0_0 a0_1 : Int) (a0_2 : Sl) (a1_0 a1_1 : Int) (a1_2 : Sl) (H : AH) : (procM P T C (.fn F.weqCircuit) [.agg [.int .i64 a0_0, .int .i64 a0_1, .sl a0_2], .agg [.int .i64 a1_0, .int .i64 a1_1, .sl a1_2]] H).run =
  cond (a0_0 != a1_0)
  (some ⟨1, [.sc (.bool false)], H⟩)
  (cond (a0_1 != a1_1)
   (some ⟨1, [.sc (.bool false)], H⟩)
   ((C (.fn F.weqGateS) [.sc (.sl a0_2), .sc (.sl a1_2)] H).bind fun r1 =>
    (oneP r1.vs).bind fun p2 =>
    p2.sc?.bind fun c3 =>
    (boolAt [c3] 0).bind fun b4 =>
    cond (!b4)
    (some ⟨1, [.sc (.bool false)], r1.H⟩)
    (some ⟨1, [.sc (.bool true)], r1.H⟩))) := by kernel_rfl
/- loop.example/g03211/laws.markCircuit -/
theorem e_wmarkCircuit (C : Oracle) (a0_0 a0_1 : Int) (a0_2 : Sl) (a1 : Int) (H : AH) : (procM P T C (.fn F.wmarkCircuit) [.agg [.int .i64 a0_0, .int .i64 a0_1, .sl a0_2], .sc (.int .i64 a1)] H).run =
  (C (.fn F.wmarkGateS) [.sc (.sl a0_2), .sc (.int .i64 a1)] H).bind fun r1 =>
  (oneP r1.vs).bind fun p2 =>
  p2.sc?.bind fun c3 =>
  (intAt .i64 [c3] 0).bind fun n4 =>
  some ⟨1, [.sc (.int .i64 n4)], r1.H⟩ := by kernel_rfl
/- loop.example/g03211/spec.RunCircuit -/
theorem e_sRunCircuit_0 (C : Oracle) (x57 : Sl) (x58 x59 y2_0 y2_1 : Int) (y2_2 : Sl) (y6_0 y6_1 y6_2 : Int) (y7_0 y7_1 y7_2 y9_0 y9_1 y9_2 : Sl) (H : AH) : (procM P T C (.loop F.sRunCircuit 0) [.sc (.sl x57), .sc (.int .i64 x58), .sc (.int .i64 x59), .agg [.int .i64 y2_0, .int .i64 y2_1, .sl y2_2], .agg [.int .i64 y6_0, .int .i64 y6_1, .int .i64 y6_2], .agg [.sl y7_0, .sl y7_1, .sl y7_2], .agg [.sl y9_0, .sl y9_1, .sl y9_2]] H).run =
  cond (decide (x59 < x58))
  ((ixA x57 x59 3).bind fun o38 =>
   (rdB H x57.b).bind fun c39 =>
   (intAt .i64 c39 o38).bind fun n40 =>
   (intAt .i64 c39 (o38 + 1)).bind fun n41 =>
   (intAt .i64 c39 (o38 + 1 + 1)).bind fun n42 =>
   (C (.fn F.sl40Lines) [.agg [.int .i64 n40, .int .i64 n41, .int .i64 n42]] H).bind fun r43 =>
   (oneP r43.vs).bind fun p44 =>
   p44.sc?.bind fun c45 =>
   (slAt [c45] 0).bind fun s46 =>
   (newB r43.H 1 []).bind fun h47 =>
   (C (.loop F.sRunCircuit 1) [.sc (.sl ⟨h47.1, 0, 0, 0, true⟩), .sc (.sl s46), .sc (.int .i64 (s46.n : Int)), .sc (.int .i64 0)] h47.2).bind fun r54 =>
   cond (Nat.beq r54.e 4)
   ((nthP r54.vs 0).bind fun p55 =>
    p55.sc?.bind fun c56 =>
    (slAt [c56] 0).bind fun s57 =>
    (C (.fn F.sl05Ints) [.sc (.sl s57)] r54.H).bind fun r58 =>
    (oneP r58.vs).bind fun p59 =>
    p59.sc?.bind fun c60 =>
    (slAt [c60] 0).bind fun s61 =>
    (rng r58.H s46.b s46.o (s46.n * 1)).bind fun l62 =>
    (appB r58.H 1 8 s61 l62 s46.n).bind fun m63 =>
    (C (.fn F.sl40Gate) [.sc (.int .i64 y2_0), .sc (.int .i64 n40), .sc (.sl m63.1)] m63.2).bind fun r64 =>
    (oneP r64.vs).bind fun p65 =>
    p65.agg?.bind fun l66 =>
    cond (decide (l66.length = 3))
    ((slAt l66 0).bind fun s67 =>
     (slAt l66 1).bind fun s68 =>
     (slAt l66 2).bind fun s69 =>
     (C (.fn F.sl10Rest) [.agg [.sl y9_0, .sl y9_1, .sl y9_2], .sc (.sl s46)] r64.H).bind fun r70 =>
     (oneP r70.vs).bind fun p71 =>
     p71.sc?.bind fun c72 =>
     (slAt [c72] 0).bind fun s73 =>
     (rng r70.H s57.b s57.o (s57.n * 1)).bind fun l74 =>
     (appB r70.H 1 8 s73 l74 s57.n).bind fun m75 =>
     (C (.fn F.sl08Pair) [.agg [.int .i64 y6_0, .int .i64 y6_1, .int .i64 y6_2], .agg [.sl y9_0, .sl y9_1, .sl y9_2], .agg [.sl s67, .sl s68, .sl s69], .sc (.sl m75.1)] m75.2).bind fun r76 =>
     (oneP r76.vs).bind fun p77 =>
     p77.agg?.bind fun l78 =>
     cond (decide (l78.length = 3))
     ((slAt l78 0).bind fun s79 =>
      (slAt l78 1).bind fun s80 =>
      (slAt l78 2).bind fun s81 =>
      (C (.fn F.sl06Names) [.sc (.sl s79), .sc (.sl s57), .sc (.sl s46)] r76.H).bind fun r82 =>
      (oneP r82.vs).bind fun p83 =>
      p83.sc?.bind fun c84 =>
      (slAt [c84] 0).bind fun s85 =>
      (C (.fn F.sl06Permute) [.agg [.int .i64 y6_0, .int .i64 y6_1, .int .i64 y6_2], .agg [.sl s85, .sl s80, .sl s81], .sc (.sl y7_0)] r82.H).bind fun r86 =>
      (oneP r86.vs).bind fun p87 =>
      p87.agg?.bind fun l88 =>
      cond (decide (l88.length = 3))
      ((slAt l88 0).bind fun s89 =>
       (slAt l88 1).bind fun s90 =>
       (slAt l88 2).bind fun s91 =>
       C (.loop F.sRunCircuit 0) [.sc (.sl x57), .sc (.int .i64 x58), .sc (.int .i64 (IntKind.wrap .i64 (x59 + 1))), .agg [.int .i64 y2_0, .int .i64 y2_1, .sl y2_2], .agg [.int .i64 y6_0, .int .i64 y6_1, .int .i64 y6_2], .agg [.sl y7_0, .sl y7_1, .sl y7_2], .agg [.sl s89, .sl s90, .sl s91]] r86.H)
      (none))
     (none))
    (none))
   (none))
  (some ⟨2, [.agg [.sl y9_0, .sl y9_1, .sl y9_2]], H⟩) := by kernel_rfl
theorem e_sRunCircuit_1 (C : Oracle) (x13 x66 : Sl) (x67 x68 : Int) (H : AH) : (procM P T C (.loop F.sRunCircuit 1) [.sc (.sl x13), .sc (.sl x66), .sc (.int .i64 x67), .sc (.int .i64 x68)] H).run =
  cond (decide (x68 < x67))
  ((ixA x66 x68 1).bind fun o48 =>
   (rdB H x66.b).bind fun c49 =>
   (intAt .i64 c49 o48).bind fun n50 =>
   (newB H 1 [.int .i64 (IntKind.wrap .i64 (50 + n50))]).bind fun h51 =>
   (rng h51.2 h51.1 0 (1 * 1)).bind fun l52 =>
   (appB h51.2 1 8 x13 l52 1).bind fun m53 =>
   C (.loop F.sRunCircuit 1) [.sc (.sl m53.1), .sc (.sl x66), .sc (.int .i64 x67), .sc (.int .i64 (IntKind.wrap .i64 (x68 + 1)))] m53.2)
  (some ⟨4, [.sc (.sl x13)], H⟩) := by kernel_rfl
theorem e_sRunCircuit (C : Oracle) (a0_0 a0_1 : Int) (a0_2 a1_0 a1_1 a1_2 : Sl) (H : AH) : (procM P T C (.fn F.sRunCircuit) [.agg [.int .i64 a0_0, .int .i64 a0_1, .sl a0_2], .agg [.sl a1_0, .sl a1_1, .sl a1_2]] H).run =
  (C (.fn F.sCircuitOk) [.agg [.int .i64 a0_0, .int .i64 a0_1, .sl a0_2]] H).bind fun r1 =>
  (oneP r1.vs).bind fun p2 =>
  p2.sc?.bind fun c3 =>
  (boolAt [c3] 0).bind fun b4 =>
  cond (!b4)
  (some ⟨1, [.agg [.sl ⟨0, 0, 0, 0, true⟩, .sl ⟨0, 0, 0, 0, true⟩, .sl ⟨0, 0, 0, 0, true⟩], .sc (.bool false)], r1.H⟩)
  ((C (.fn F.sl40Ring) [.sc (.int .i64 a0_0)] r1.H).bind fun r5 =>
   (oneP r5.vs).bind fun p6 =>
   p6.agg?.bind fun l7 =>
   cond (decide (l7.length = 3))
   ((intAt .i64 l7 0).bind fun n8 =>
    (intAt .i64 l7 1).bind fun n9 =>
    (intAt .i64 l7 2).bind fun n10 =>
    (C (.fn F.sBasisState) [.sc (.int .i64 a0_0), .sc (.int .i64 a0_1), .sc (.int .i64 0)] r5.H).bind fun r11 =>
    (lenP r11.vs 2).bind fun _ =>
    (nthP r11.vs 0).bind fun p12 =>
    p12.agg?.bind fun l13 =>
    cond (decide (l13.length = 3))
    ((slAt l13 0).bind fun s14 =>
     (slAt l13 1).bind fun s15 =>
     (slAt l13 2).bind fun s16 =>
     (nthP r11.vs 1).bind fun p17 =>
     p17.sc?.bind fun c18 =>
     (boolAt [c18] 0).bind fun b19 =>
     (C (.fn F.sTensorOk) [.agg [.int .i64 n8, .int .i64 n9, .int .i64 n10], .agg [.sl a1_0, .sl a1_1, .sl a1_2]] r11.H).bind fun r20 =>
     (oneP r20.vs).bind fun p21 =>
     p21.sc?.bind fun c22 =>
     (boolAt [c22] 0).bind fun b23 =>
     cond (!b23)
     (some ⟨1, [.agg [.sl ⟨0, 0, 0, 0, true⟩, .sl ⟨0, 0, 0, 0, true⟩, .sl ⟨0, 0, 0, 0, true⟩], .sc (.bool false)], r20.H⟩)
     ((C (.fn F.sl06Equal) [.sc (.sl a1_0), .sc (.sl s14)] r20.H).bind fun r24 =>
      (oneP r24.vs).bind fun p25 =>
      p25.sc?.bind fun c26 =>
      (boolAt [c26] 0).bind fun b27 =>
      cond (!b27)
      (some ⟨1, [.agg [.sl ⟨0, 0, 0, 0, true⟩, .sl ⟨0, 0, 0, 0, true⟩, .sl ⟨0, 0, 0, 0, true⟩], .sc (.bool false)], r24.H⟩)
      ((C (.fn F.sl06Equal) [.sc (.sl a1_1), .sc (.sl s15)] r24.H).bind fun r28 =>
       (oneP r28.vs).bind fun p29 =>
       p29.sc?.bind fun c30 =>
       (boolAt [c30] 0).bind fun b31 =>
       cond (!b31)
       (some ⟨1, [.agg [.sl ⟨0, 0, 0, 0, true⟩, .sl ⟨0, 0, 0, 0, true⟩, .sl ⟨0, 0, 0, 0, true⟩], .sc (.bool false)], r28.H⟩)
       ((C (.fn F.sl05Copy) [.agg [.sl a1_0, .sl a1_1, .sl a1_2]] r28.H).bind fun r32 =>
        (oneP r32.vs).bind fun p33 =>
        p33.agg?.bind fun l34 =>
        cond (decide (l34.length = 3))
        ((slAt l34 0).bind fun s35 =>
         (slAt l34 1).bind fun s36 =>
         (slAt l34 2).bind fun s37 =>
         (C (.loop F.sRunCircuit 0) [.sc (.sl a0_2), .sc (.int .i64 (a0_2.n : Int)), .sc (.int .i64 0), .agg [.int .i64 a0_0, .int .i64 a0_1, .sl a0_2], .agg [.int .i64 n8, .int .i64 n9, .int .i64 n10], .agg [.sl s14, .sl s15, .sl s16], .agg [.sl s35, .sl s36, .sl s37]] r32.H).bind fun r92 =>
         cond (Nat.beq r92.e 2)
         (((nthP r92.vs 0).bind PV.agg?).bind fun l93 =>
          cond (decide (l93.length = 3))
          ((slAt l93 0).bind fun s94 =>
           (slAt l93 1).bind fun s95 =>
           (slAt l93 2).bind fun s96 =>
           some ⟨1, [.agg [.sl s94, .sl s95, .sl s96], .sc (.bool true)], r92.H⟩)
          (none))
         (none))
        (none)))))
    (none))
   (none)) := by kernel_rfl
/- loop.example/g03211/impl.RunCircuit -/
theorem e_iRunCircuit_0 (C : Oracle) (x25 : Sl) (x26 x27 y2_0 y2_1 : Int) (y2_2 y6_0 y6_1 y6_2 : Sl) (H : AH) : (procM P T C (.loop F.iRunCircuit 0) [.sc (.sl x25), .sc (.int .i64 x26), .sc (.int .i64 x27), .agg [.int .i64 y2_0, .int .i64 y2_1, .sl y2_2], .agg [.sl y6_0, .sl y6_1, .sl y6_2]] H).run =
  cond (decide (x27 < x26))
  ((ixA x25 x27 3).bind fun o15 =>
   (rdB H x25.b).bind fun c16 =>
   (intAt .i64 c16 o15).bind fun n17 =>
   (intAt .i64 c16 (o15 + 1)).bind fun n18 =>
   (intAt .i64 c16 (o15 + 1 + 1)).bind fun n19 =>
   (C (.fn F.igateQubits) [.agg [.int .i64 n17, .int .i64 n18, .int .i64 n19]] H).bind fun r20 =>
   (oneP r20.vs).bind fun p21 =>
   p21.sc?.bind fun c22 =>
   (slAt [c22] 0).bind fun s23 =>
   (C (.fn F.igateMatrix) [.sc (.int .i64 y2_0), .sc (.int .i64 n17)] r20.H).bind fun r24 =>
   (oneP r24.vs).bind fun p25 =>
   p25.sc?.bind fun c26 =>
   (slAt [c26] 0).bind fun s27 =>
   (C (.fn F.iapplyMatrix) [.sc (.int .i64 y2_0), .agg [.sl y6_0, .sl y6_1, .sl y6_2], .sc (.sl s23), .sc (.sl s27)] r24.H).bind fun r28 =>
   (oneP r28.vs).bind fun p29 =>
   p29.agg?.bind fun l30 =>
   cond (decide (l30.length = 3))
   ((slAt l30 0).bind fun s31 =>
    (slAt l30 1).bind fun s32 =>
    (slAt l30 2).bind fun s33 =>
    C (.loop F.iRunCircuit 0) [.sc (.sl x25), .sc (.int .i64 x26), .sc (.int .i64 (IntKind.wrap .i64 (x27 + 1))), .agg [.int .i64 y2_0, .int .i64 y2_1, .sl y2_2], .agg [.sl s31, .sl s32, .sl s33]] r28.H)
   (none))
  (some ⟨2, [.agg [.sl y6_0, .sl y6_1, .sl y6_2]], H⟩) := by kernel_rfl
theorem e_iRunCircuit (C : Oracle) (a0_0 a0_1 : Int) (a0_2 a1_0 a1_1 a1_2 : Sl) (H : AH) : (procM P T C (.fn F.iRunCircuit) [.agg [.int .i64 a0_0, .int .i64 a0_1, .sl a0_2], .agg [.sl a1_0, .sl a1_1, .sl a1_2]] H).run =
  (C (.fn F.iCircuitOk) [.agg [.int .i64 a0_0, .int .i64 a0_1, .sl a0_2]] H).bind fun r1 =>
  (oneP r1.vs).bind fun p2 =>
  p2.sc?.bind fun c3 =>
  (boolAt [c3] 0).bind fun b4 =>
  cond (!b4)
  (some ⟨1, [.agg [.sl ⟨0, 0, 0, 0, true⟩, .sl ⟨0, 0, 0, 0, true⟩, .sl ⟨0, 0, 0, 0, true⟩], .sc (.bool false)], r1.H⟩)
  ((C (.fn F.istateOk) [.sc (.int .i64 a0_0), .sc (.int .i64 a0_1), .agg [.sl a1_0, .sl a1_1, .sl a1_2]] r1.H).bind fun r5 =>
   (oneP r5.vs).bind fun p6 =>
   p6.sc?.bind fun c7 =>
   (boolAt [c7] 0).bind fun b8 =>
   cond (!b8)
   (some ⟨1, [.agg [.sl ⟨0, 0, 0, 0, true⟩, .sl ⟨0, 0, 0, 0, true⟩, .sl ⟨0, 0, 0, 0, true⟩], .sc (.bool false)], r5.H⟩)
   ((C (.fn F.icopyTensor) [.agg [.sl a1_0, .sl a1_1, .sl a1_2]] r5.H).bind fun r9 =>
    (oneP r9.vs).bind fun p10 =>
    p10.agg?.bind fun l11 =>
    cond (decide (l11.length = 3))
    ((slAt l11 0).bind fun s12 =>
     (slAt l11 1).bind fun s13 =>
     (slAt l11 2).bind fun s14 =>
     (C (.loop F.iRunCircuit 0) [.sc (.sl a0_2), .sc (.int .i64 (a0_2.n : Int)), .sc (.int .i64 0), .agg [.int .i64 a0_0, .int .i64 a0_1, .sl a0_2], .agg [.sl s12, .sl s13, .sl s14]] r9.H).bind fun r34 =>
     cond (Nat.beq r34.e 2)
     (((nthP r34.vs 0).bind PV.agg?).bind fun l35 =>
      cond (decide (l35.length = 3))
      ((slAt l35 0).bind fun s36 =>
       (slAt l35 1).bind fun s37 =>
       (slAt l35 2).bind fun s38 =>
       some ⟨1, [.agg [.sl s36, .sl s37, .sl s38], .sc (.bool true)], r34.H⟩)
      (none))
     (none))
    (none))) := by kernel_rfl
/- loop.example/g03211/laws.szIntS -/
theorem e_wszIntS (C : Oracle) (a0 : Sl) (a1 : Int) (H : AH) : (procM P T C (.fn F.wszIntS) [.sc (.sl a0), .sc (.int .i64 a1)] H).run =
  cond (decide ((IntKind.wrap .i64 (a1 - (a0.n : Int))) < 0))
  (some ⟨1, [.sc (.int .i64 (-1))], H⟩)
  (some ⟨1, [.sc (.int .i64 (IntKind.wrap .i64 (a1 - (a0.n : Int))))], H⟩) := by kernel_rfl
/- loop.example/g03211/spec.BasisState -/
theorem e_sBasisState_0 (C : Oracle) (x1 x2 : Int) (x9 x10 x11 : Sl) (x12 : Int) (H : AH) : (procM P T C (.loop F.sBasisState 0) [.sc (.int .i64 x1), .sc (.int .i64 x2), .sc (.sl x9), .sc (.sl x10), .sc (.sl x11), .sc (.int .i64 x12)] H).run =
  cond (decide (x12 < x1))
  ((newB H 1 [.int .i64 x12]).bind fun h22 =>
   (rng h22.2 h22.1 0 (1 * 1)).bind fun l23 =>
   (appB h22.2 1 8 x9 l23 1).bind fun m24 =>
   (newB m24.2 1 [.int .i64 2]).bind fun h25 =>
   (rng h25.2 h25.1 0 (1 * 1)).bind fun l26 =>
   (appB h25.2 1 8 x10 l26 1).bind fun m27 =>
   cond (decide (x12 < 0))
   (none)
   ((newB m27.2 1 [.int .i64 (bitAnd .i64 (shlR .i64 x2 x12) 1)]).bind fun h28 =>
    (rng h28.2 h28.1 0 (1 * 1)).bind fun l29 =>
    (appB h28.2 1 8 x11 l29 1).bind fun m30 =>
    C (.loop F.sBasisState 0) [.sc (.int .i64 x1), .sc (.int .i64 x2), .sc (.sl m24.1), .sc (.sl m27.1), .sc (.sl m30.1), .sc (.int .i64 (IntKind.wrap .i64 (x12 + 1)))] m30.2))
  (some ⟨2, [.sc (.sl x9), .sc (.sl x10), .sc (.sl x11)], H⟩) := by kernel_rfl
theorem e_sBasisState (C : Oracle) (a0 a1 a2 : Int) (H : AH) : (procM P T C (.fn F.sBasisState) [.sc (.int .i64 a0), .sc (.int .i64 a1), .sc (.int .i64 a2)] H).run =
  (C (.fn F.sIsPrime) [.sc (.int .i64 a0)] H).bind fun r1 =>
  (oneP r1.vs).bind fun p2 =>
  p2.sc?.bind fun c3 =>
  (boolAt [c3] 0).bind fun b4 =>
  cond (!b4)
  (some ⟨1, [.agg [.sl ⟨0, 0, 0, 0, true⟩, .sl ⟨0, 0, 0, 0, true⟩, .sl ⟨0, 0, 0, 0, true⟩], .sc (.bool false)], r1.H⟩)
  (cond (a0 == 2)
   (some ⟨1, [.agg [.sl ⟨0, 0, 0, 0, true⟩, .sl ⟨0, 0, 0, 0, true⟩, .sl ⟨0, 0, 0, 0, true⟩], .sc (.bool false)], r1.H⟩)
   ((C (.fn F.sl01In) [.sc (.int .i64 a1), .sc (.int .i64 1), .sc (.int .i64 5)] r1.H).bind fun r5 =>
    (oneP r5.vs).bind fun p6 =>
    p6.sc?.bind fun c7 =>
    (boolAt [c7] 0).bind fun b8 =>
    cond (!b8)
    (some ⟨1, [.agg [.sl ⟨0, 0, 0, 0, true⟩, .sl ⟨0, 0, 0, 0, true⟩, .sl ⟨0, 0, 0, 0, true⟩], .sc (.bool false)], r5.H⟩)
    (cond (decide (a1 < 0))
     (none)
     ((C (.fn F.sl01In) [.sc (.int .i64 a2), .sc (.int .i64 0), .sc (.int .i64 (IntKind.wrap .i64 ((shlL .i64 1 a1) - 1)))] r5.H).bind fun r9 =>
      (oneP r9.vs).bind fun p10 =>
      p10.sc?.bind fun c11 =>
      (boolAt [c11] 0).bind fun b12 =>
      cond (!b12)
      (some ⟨1, [.agg [.sl ⟨0, 0, 0, 0, true⟩, .sl ⟨0, 0, 0, 0, true⟩, .sl ⟨0, 0, 0, 0, true⟩], .sc (.bool false)], r9.H⟩)
      ((C (.fn F.sl40Ring) [.sc (.int .i64 a0)] r9.H).bind fun r13 =>
       (oneP r13.vs).bind fun p14 =>
       p14.agg?.bind fun l15 =>
       cond (decide (l15.length = 3))
       ((intAt .i64 l15 0).bind fun n16 =>
        (intAt .i64 l15 1).bind fun n17 =>
        (intAt .i64 l15 2).bind fun n18 =>
        (newB r13.H 1 []).bind fun h19 =>
        (newB h19.2 1 []).bind fun h20 =>
        (newB h20.2 1 []).bind fun h21 =>
        (C (.loop F.sBasisState 0) [.sc (.int .i64 a1), .sc (.int .i64 a2), .sc (.sl ⟨h19.1, 0, 0, 0, true⟩), .sc (.sl ⟨h20.1, 0, 0, 0, true⟩), .sc (.sl ⟨h21.1, 0, 0, 0, true⟩), .sc (.int .i64 0)] h21.2).bind fun r31 =>
        cond (Nat.beq r31.e 2)
        ((nthP r31.vs 0).bind fun p32 =>
         p32.sc?.bind fun c33 =>
         (slAt [c33] 0).bind fun s34 =>
         (nthP r31.vs 1).bind fun p35 =>
         p35.sc?.bind fun c36 =>
         (slAt [c36] 0).bind fun s37 =>
         (nthP r31.vs 2).bind fun p38 =>
         p38.sc?.bind fun c39 =>
         (slAt [c39] 0).bind fun s40 =>
         (C (.fn F.sl05Zero) [.agg [.int .i64 n16, .int .i64 n17, .int .i64 n18], .sc (.sl s34), .sc (.sl s37)] r31.H).bind fun r41 =>
         (oneP r41.vs).bind fun p42 =>
         p42.agg?.bind fun l43 =>
         cond (decide (l43.length = 3))
         ((slAt l43 0).bind fun s44 =>
          (slAt l43 1).bind fun s45 =>
          (slAt l43 2).bind fun s46 =>
          (C (.fn F.sl05Offset) [.sc (.sl s37), .sc (.sl s40)] r41.H).bind fun r47 =>
          (oneP r47.vs).bind fun p48 =>
          p48.sc?.bind fun c49 =>
          (intAt .i64 [c49] 0).bind fun n50 =>
          (C (.fn F.sl02One) [.agg [.int .i64 n16, .int .i64 n17, .int .i64 n18]] r47.H).bind fun r51 =>
          (oneP r51.vs).bind fun p52 =>
          p52.sc?.bind fun c53 =>
          (slAt [c53] 0).bind fun s54 =>
          (C (.fn F.sl05Put) [.agg [.int .i64 n16, .int .i64 n17, .int .i64 n18], .agg [.sl s44, .sl s45, .sl s46], .sc (.int .i64 n50), .sc (.sl s54)] r51.H).bind fun r55 =>
          some ⟨1, [.agg [.sl s44, .sl s45, .sl s46], .sc (.bool true)], r55.H⟩)
         (none))
        (none))
       (none)))))) := by kernel_rfl
/- loop.example/g03211/spec.l40Ring -/
theorem e_sl40Ring (C : Oracle) (a0 : Int) (H : AH) : (procM P T C (.fn F.sl40Ring) [.sc (.int .i64 a0)] H).run =
  some ⟨1, [.agg [.int .i64 8, .int .i64 a0, .int .i64 0]], H⟩ := by kernel_rfl
/- loop.example/g03211/spec.PauliOk -/
theorem e_sPauliOk (C : Oracle) (a0 a1_0 a1_1 a1_2 : Int) (H : AH) : (procM P T C (.fn F.sPauliOk) [.sc (.int .i64 a0), .agg [.int .i64 a1_0, .int .i64 a1_1, .int .i64 a1_2]] H).run =
  (C (.fn F.sl01In) [.sc (.int .i64 a0), .sc (.int .i64 1), .sc (.int .i64 5)] H).bind fun r1 =>
  (oneP r1.vs).bind fun p2 =>
  p2.sc?.bind fun c3 =>
  (boolAt [c3] 0).bind fun b4 =>
  cond b4
  (cond (decide (a0 < 0))
   (none)
   ((C (.fn F.sl01In) [.sc (.int .i64 a1_0), .sc (.int .i64 0), .sc (.int .i64 (IntKind.wrap .i64 ((shlL .i64 1 a0) - 1)))] r1.H).bind fun r5 =>
    (oneP r5.vs).bind fun p6 =>
    p6.sc?.bind fun c7 =>
    (boolAt [c7] 0).bind fun b8 =>
    cond b8
    (cond (decide (a0 < 0))
     (none)
     ((C (.fn F.sl01In) [.sc (.int .i64 a1_1), .sc (.int .i64 0), .sc (.int .i64 (IntKind.wrap .i64 ((shlL .i64 1 a0) - 1)))] r5.H).bind fun r9 =>
      (oneP r9.vs).bind fun p10 =>
      p10.sc?.bind fun c11 =>
      (boolAt [c11] 0).bind fun b12 =>
      cond b12
      ((C (.fn F.sl01In) [.sc (.int .i64 a1_2), .sc (.int .i64 0), .sc (.int .i64 1)] r9.H).bind fun r13 =>
       (oneP r13.vs).bind fun p14 =>
       p14.sc?.bind fun c15 =>
       (boolAt [c15] 0).bind fun b16 =>
       some ⟨1, [.sc (.bool b16)], r13.H⟩)
      (some ⟨1, [.sc (.bool false)], r9.H⟩)))
    (some ⟨1, [.sc (.bool false)], r5.H⟩)))
  (some ⟨1, [.sc (.bool false)], r1.H⟩) := by kernel_rfl
/- loop.example/g03211/spec.TensorOk -/
theorem e_sTensorOk_0 (C : Oracle) (x28 : Sl) (x29 x30 y2_0 y2_1 y2_2 : Int) (H : AH) : (procM P T C (.loop F.sTensorOk 0) [.sc (.sl x28), .sc (.int .i64 x29), .sc (.int .i64 x30), .agg [.int .i64 y2_0, .int .i64 y2_1, .int .i64 y2_2]] H).run =
  cond (decide (x30 < x29))
  ((ixA x28 x30 1).bind fun o13 =>
   (rdB H x28.b).bind fun c14 =>
   (intAt .i64 c14 o13).bind fun n15 =>
   (C (.fn F.sl02Top) [.agg [.int .i64 y2_0, .int .i64 y2_1, .int .i64 y2_2]] H).bind fun r16 =>
   (oneP r16.vs).bind fun p17 =>
   p17.sc?.bind fun c18 =>
   (intAt .i64 [c18] 0).bind fun n19 =>
   (C (.fn F.sl01In) [.sc (.int .i64 n15), .sc (.int .i64 0), .sc (.int .i64 n19)] r16.H).bind fun r20 =>
   (oneP r20.vs).bind fun p21 =>
   p21.sc?.bind fun c22 =>
   (boolAt [c22] 0).bind fun b23 =>
   cond (!b23)
   (some ⟨1, [.sc (.bool false)], r20.H⟩)
   (C (.loop F.sTensorOk 0) [.sc (.sl x28), .sc (.int .i64 x29), .sc (.int .i64 (IntKind.wrap .i64 (x30 + 1))), .agg [.int .i64 y2_0, .int .i64 y2_1, .int .i64 y2_2]] r20.H))
  (some ⟨2, [], H⟩) := by kernel_rfl
theorem e_sTensorOk (C : Oracle) (a0_0 a0_1 a0_2 : Int) (a1_0 a1_1 a1_2 : Sl) (H : AH) : (procM P T C (.fn F.sTensorOk) [.agg [.int .i64 a0_0, .int .i64 a0_1, .int .i64 a0_2], .agg [.sl a1_0, .sl a1_1, .sl a1_2]] H).run =
  (C (.fn F.sTensorSize) [.agg [.sl a1_0, .sl a1_1, .sl a1_2]] H).bind fun r1 =>
  (oneP r1.vs).bind fun p2 =>
  p2.sc?.bind fun c3 =>
  (intAt .i64 [c3] 0).bind fun n4 =>
  (C (.fn F.sRingOk) [.agg [.int .i64 a0_0, .int .i64 a0_1, .int .i64 a0_2]] r1.H).bind fun r5 =>
  (oneP r5.vs).bind fun p6 =>
  p6.sc?.bind fun c7 =>
  (boolAt [c7] 0).bind fun b8 =>
  cond (!b8)
  (some ⟨1, [.sc (.bool false)], r5.H⟩)
  (cond (decide (n4 < 0))
   (some ⟨1, [.sc (.bool false)], r5.H⟩)
   ((C (.fn F.sl02Width) [.agg [.int .i64 a0_0, .int .i64 a0_1, .int .i64 a0_2]] r5.H).bind fun r9 =>
    (oneP r9.vs).bind fun p10 =>
    p10.sc?.bind fun c11 =>
    (intAt .i64 [c11] 0).bind fun n12 =>
    cond ((a1_2.n : Int) != (IntKind.wrap .i64 (n4 * n12)))
    (some ⟨1, [.sc (.bool false)], r9.H⟩)
    ((C (.loop F.sTensorOk 0) [.sc (.sl a1_2), .sc (.int .i64 (a1_2.n : Int)), .sc (.int .i64 0), .agg [.int .i64 a0_0, .int .i64 a0_1, .int .i64 a0_2]] r9.H).bind fun r24 =>
     cond (Nat.beq r24.e 1)
     ((nthP r24.vs 0).bind fun p25 =>
      p25.sc?.bind fun c26 =>
      (boolAt [c26] 0).bind fun b27 =>
      some ⟨1, [.sc (.bool b27)], r24.H⟩)
     (cond (Nat.beq r24.e 2)
      (some ⟨1, [.sc (.bool true)], r24.H⟩)
      (none))))) := by kernel_rfl
/- loop.example/g03211/spec.l06Equal -/
theorem e_sl06Equal_0 (C : Oracle) (x1 x7 : Sl) (x8 x9 : Int) (H : AH) : (procM P T C (.loop F.sl06Equal 0) [.sc (.sl x1), .sc (.sl x7), .sc (.int .i64 x8), .sc (.int .i64 x9)] H).run =
  cond (decide (x9 < x8))
  ((ixA x7 x9 1).bind fun o1 =>
   (rdB H x7.b).bind fun c2 =>
   (intAt .i64 c2 o1).bind fun n3 =>
   cond (decide (x9 ≥ (x1.n : Int)))
   (some ⟨1, [.sc (.bool false)], H⟩)
   ((ixA x1 x9 1).bind fun o4 =>
    (rdB H x1.b).bind fun c5 =>
    (intAt .i64 c5 o4).bind fun n6 =>
    cond (n6 != n3)
    (some ⟨1, [.sc (.bool false)], H⟩)
    (C (.loop F.sl06Equal 0) [.sc (.sl x1), .sc (.sl x7), .sc (.int .i64 x8), .sc (.int .i64 (IntKind.wrap .i64 (x9 + 1)))] H)))
  (some ⟨2, [], H⟩) := by kernel_rfl
theorem e_sl06Equal (C : Oracle) (a0 a1 : Sl) (H : AH) : (procM P T C (.fn F.sl06Equal) [.sc (.sl a0), .sc (.sl a1)] H).run =
  (C (.loop F.sl06Equal 0) [.sc (.sl a1), .sc (.sl a0), .sc (.int .i64 (a0.n : Int)), .sc (.int .i64 0)] H).bind fun r7 =>
  cond (Nat.beq r7.e 1)
  ((nthP r7.vs 0).bind fun p8 =>
   p8.sc?.bind fun c9 =>
   (boolAt [c9] 0).bind fun b10 =>
   some ⟨1, [.sc (.bool b10)], r7.H⟩)
  (cond (Nat.beq r7.e 2)
   (some ⟨1, [.sc (.bool ((a0.n : Int) == (a1.n : Int)))], r7.H⟩)
   (none)) := by kernel_rfl
/- loop.example/g03211/spec.l05Copy -/
theorem e_sl05Copy (C : Oracle) (a0_0 a0_1 a0_2 : Sl) (H : AH) : (procM P T C (.fn F.sl05Copy) [.agg [.sl a0_0, .sl a0_1, .sl a0_2]] H).run =
  (C (.fn F.sl05Ints) [.sc (.sl a0_0)] H).bind fun r1 =>
  (oneP r1.vs).bind fun p2 =>
  p2.sc?.bind fun c3 =>
  (slAt [c3] 0).bind fun s4 =>
  (C (.fn F.sl05Ints) [.sc (.sl a0_1)] r1.H).bind fun r5 =>
  (oneP r5.vs).bind fun p6 =>
  p6.sc?.bind fun c7 =>
  (slAt [c7] 0).bind fun s8 =>
  (C (.fn F.sl05Ints) [.sc (.sl a0_2)] r5.H).bind fun r9 =>
  (oneP r9.vs).bind fun p10 =>
  p10.sc?.bind fun c11 =>
  (slAt [c11] 0).bind fun s12 =>
  some ⟨1, [.agg [.sl s4, .sl s8, .sl s12]], r9.H⟩ := by kernel_rfl
/- loop.example/g03211/spec.l05Index -/
theorem e_sl05Index_0 (C : Oracle) (x0 : Sl) (x1 : Int) (x5 : Sl) (x6 : Int) (H : AH) : (procM P T C (.loop F.sl05Index 0) [.sc (.sl x0), .sc (.int .i64 x1), .sc (.sl x5), .sc (.int .i64 x6)] H).run =
  cond (decide (x6 ≥ 0))
  ((ixA x0 x6 1).bind fun o2 =>
   (rdB H x0.b).bind fun c3 =>
   (intAt .i64 c3 o2).bind fun n4 =>
   cond (n4 == 0)
   (none)
   ((ixA x5 x6 1).bind fun o5 =>
    (putR H x5.b o5 [.int .i64 (Int.tmod x1 n4)]).bind fun H6 =>
    (ixA x0 x6 1).bind fun o7 =>
    (rdB H6 x0.b).bind fun c8 =>
    (intAt .i64 c8 o7).bind fun n9 =>
    cond (n9 == 0)
    (none)
    (C (.loop F.sl05Index 0) [.sc (.sl x0), .sc (.int .i64 (IntKind.wrap .i64 (Int.tdiv x1 n9))), .sc (.sl x5), .sc (.int .i64 (IntKind.wrap .i64 (x6 - 1)))] H6)))
  (some ⟨2, [], H⟩) := by kernel_rfl
theorem e_sl05Index (C : Oracle) (a0 : Sl) (a1 : Int) (H : AH) : (procM P T C (.fn F.sl05Index) [.sc (.sl a0), .sc (.int .i64 a1)] H).run =
  (mkB H 1 8 [.int .i64 0] (a0.n : Int) (a0.n : Int)).bind fun m1 =>
  (C (.loop F.sl05Index 0) [.sc (.sl a0), .sc (.int .i64 a1), .sc (.sl m1.1), .sc (.int .i64 (IntKind.wrap .i64 ((a0.n : Int) - 1)))] m1.2).bind fun r10 =>
  cond (Nat.beq r10.e 2)
  (some ⟨1, [.sc (.sl m1.1)], r10.H⟩)
  (none) := by kernel_rfl
/- loop.example/g03211/spec.PowElem -/
theorem e_sPowElem_0 (C : Oracle) (x1 : Sl) (x2 : Int) (x7 : Sl) (y3_0 y3_1 y3_2 : Int) (H : AH) : (procM P T C (.loop F.sPowElem 0) [.sc (.sl x1), .sc (.int .i64 x2), .sc (.sl x7), .agg [.int .i64 y3_0, .int .i64 y3_1, .int .i64 y3_2]] H).run =
  cond (decide (x2 > 0))
  ((C (.fn F.sl02Mul) [.agg [.int .i64 y3_0, .int .i64 y3_1, .int .i64 y3_2], .sc (.sl x7), .sc (.sl x1)] H).bind fun r13 =>
   (oneP r13.vs).bind fun p14 =>
   p14.sc?.bind fun c15 =>
   (slAt [c15] 0).bind fun s16 =>
   C (.loop F.sPowElem 0) [.sc (.sl x1), .sc (.int .i64 (IntKind.wrap .i64 (x2 - 1))), .sc (.sl s16), .agg [.int .i64 y3_0, .int .i64 y3_1, .int .i64 y3_2]] r13.H)
  (some ⟨2, [.sc (.sl x7)], H⟩) := by kernel_rfl
theorem e_sPowElem (C : Oracle) (a0_0 a0_1 a0_2 : Int) (a1 : Sl) (a2 : Int) (H : AH) : (procM P T C (.fn F.sPowElem) [.agg [.int .i64 a0_0, .int .i64 a0_1, .int .i64 a0_2], .sc (.sl a1), .sc (.int .i64 a2)] H).run =
  (C (.fn F.sElemOk) [.agg [.int .i64 a0_0, .int .i64 a0_1, .int .i64 a0_2], .sc (.sl a1)] H).bind fun r1 =>
  (oneP r1.vs).bind fun p2 =>
  p2.sc?.bind fun c3 =>
  (boolAt [c3] 0).bind fun b4 =>
  cond (!b4)
  (some ⟨1, [.sc (.sl ⟨0, 0, 0, 0, true⟩)], r1.H⟩)
  ((C (.fn F.sl01In) [.sc (.int .i64 a2), .sc (.int .i64 0), .sc (.int .i64 1000)] r1.H).bind fun r5 =>
   (oneP r5.vs).bind fun p6 =>
   p6.sc?.bind fun c7 =>
   (boolAt [c7] 0).bind fun b8 =>
   cond (!b8)
   (some ⟨1, [.sc (.sl ⟨0, 0, 0, 0, true⟩)], r5.H⟩)
   ((C (.fn F.sl02One) [.agg [.int .i64 a0_0, .int .i64 a0_1, .int .i64 a0_2]] r5.H).bind fun r9 =>
    (oneP r9.vs).bind fun p10 =>
    p10.sc?.bind fun c11 =>
    (slAt [c11] 0).bind fun s12 =>
    (C (.loop F.sPowElem 0) [.sc (.sl a1), .sc (.int .i64 a2), .sc (.sl s12), .agg [.int .i64 a0_0, .int .i64 a0_1, .int .i64 a0_2]] r9.H).bind fun r17 =>
    cond (Nat.beq r17.e 2)
    ((nthP r17.vs 0).bind fun p18 =>
     p18.sc?.bind fun c19 =>
     (slAt [c19] 0).bind fun s20 =>
     some ⟨1, [.sc (.sl s20)], r17.H⟩)
    (none))) := by kernel_rfl
/- loop.example/g03211/spec.l05Put -/
theorem e_sl05Put_0 (C : Oracle) (x2 : Int) (x3 : Sl) (x8 x13 x14 : Int) (y5_0 y5_1 y5_2 : Sl) (H : AH) : (procM P T C (.loop F.sl05Put 0) [.sc (.int .i64 x2), .sc (.sl x3), .sc (.int .i64 x8), .sc (.int .i64 x13), .sc (.int .i64 x14), .agg [.sl y5_0, .sl y5_1, .sl y5_2]] H).run =
  cond (decide (x14 < x13))
  ((ixA x3 x14 1).bind fun o5 =>
   (rdB H x3.b).bind fun c6 =>
   (intAt .i64 c6 o5).bind fun n7 =>
   (ixA y5_2 (IntKind.wrap .i64 ((IntKind.wrap .i64 (x2 * x8)) + x14)) 1).bind fun o8 =>
   (putR H y5_2.b o8 [.int .i64 n7]).bind fun H9 =>
   C (.loop F.sl05Put 0) [.sc (.int .i64 x2), .sc (.sl x3), .sc (.int .i64 x8), .sc (.int .i64 x13), .sc (.int .i64 (IntKind.wrap .i64 (x14 + 1))), .agg [.sl y5_0, .sl y5_1, .sl y5_2]] H9)
  (some ⟨2, [], H⟩) := by kernel_rfl
theorem e_sl05Put (C : Oracle) (a0_0 a0_1 a0_2 : Int) (a1_0 a1_1 a1_2 : Sl) (a2 : Int) (a3 : Sl) (H : AH) : (procM P T C (.fn F.sl05Put) [.agg [.int .i64 a0_0, .int .i64 a0_1, .int .i64 a0_2], .agg [.sl a1_0, .sl a1_1, .sl a1_2], .sc (.int .i64 a2), .sc (.sl a3)] H).run =
  (C (.fn F.sl02Width) [.agg [.int .i64 a0_0, .int .i64 a0_1, .int .i64 a0_2]] H).bind fun r1 =>
  (oneP r1.vs).bind fun p2 =>
  p2.sc?.bind fun c3 =>
  (intAt .i64 [c3] 0).bind fun n4 =>
  (C (.loop F.sl05Put 0) [.sc (.int .i64 a2), .sc (.sl a3), .sc (.int .i64 n4), .sc (.int .i64 (a3.n : Int)), .sc (.int .i64 0), .agg [.sl a1_0, .sl a1_1, .sl a1_2]] r1.H).bind fun r10 =>
  cond (Nat.beq r10.e 2)
  (some ⟨1, [], r10.H⟩)
  (none) := by kernel_rfl
/- loop.example/g03211/spec.l05Offset -/
theorem e_sl05Offset_0 (C : Oracle) (x1 : Sl) (x5 : Int) (x8 : Sl) (x9 x10 : Int) (H : AH) : (procM P T C (.loop F.sl05Offset 0) [.sc (.sl x1), .sc (.int .i64 x5), .sc (.sl x8), .sc (.int .i64 x9), .sc (.int .i64 x10)] H).run =
  cond (decide (x10 < x9))
  ((ixA x8 x10 1).bind fun o1 =>
   (rdB H x8.b).bind fun c2 =>
   (intAt .i64 c2 o1).bind fun n3 =>
   (ixA x1 x10 1).bind fun o4 =>
   (rdB H x1.b).bind fun c5 =>
   (intAt .i64 c5 o4).bind fun n6 =>
   C (.loop F.sl05Offset 0) [.sc (.sl x1), .sc (.int .i64 (IntKind.wrap .i64 ((IntKind.wrap .i64 (x5 * n3)) + n6))), .sc (.sl x8), .sc (.int .i64 x9), .sc (.int .i64 (IntKind.wrap .i64 (x10 + 1)))] H)
  (some ⟨2, [.sc (.int .i64 x5)], H⟩) := by kernel_rfl
theorem e_sl05Offset (C : Oracle) (a0 a1 : Sl) (H : AH) : (procM P T C (.fn F.sl05Offset) [.sc (.sl a0), .sc (.sl a1)] H).run =
  (C (.loop F.sl05Offset 0) [.sc (.sl a1), .sc (.int .i64 0), .sc (.sl a0), .sc (.int .i64 (a0.n : Int)), .sc (.int .i64 0)] H).bind fun r7 =>
  cond (Nat.beq r7.e 2)
  ((nthP r7.vs 0).bind fun p8 =>
   p8.sc?.bind fun c9 =>
   (intAt .i64 [c9] 0).bind fun n10 =>
   some ⟨1, [.sc (.int .i64 n10)], r7.H⟩)
  (none) := by kernel_rfl
/- loop.example/g03211/spec.l02Mul -/
theorem e_sl02Mul_0 (C : Oracle) (x2 x7 x17 : Sl) (x18 x19 y3_0 y3_1 y3_2 : Int) (H : AH) : (procM P T C (.loop F.sl02Mul 0) [.sc (.sl x2), .sc (.sl x7), .sc (.sl x17), .sc (.int .i64 x18), .sc (.int .i64 x19), .agg [.int .i64 y3_0, .int .i64 y3_1, .int .i64 y3_2]] H).run =
  cond (decide (x19 < x18))
  ((ixA x17 x19 1).bind fun o46 =>
   (rdB H x17.b).bind fun c47 =>
   (intAt .i64 c47 o46).bind fun n48 =>
   (C (.loop F.sl02Mul 1) [.sc (.sl x7), .sc (.int .i64 x19), .sc (.int .i64 n48), .sc (.sl x2), .sc (.int .i64 (x2.n : Int)), .sc (.int .i64 0), .agg [.int .i64 y3_0, .int .i64 y3_1, .int .i64 y3_2]] H).bind fun r62 =>
   cond (Nat.beq r62.e 5)
   (C (.loop F.sl02Mul 0) [.sc (.sl x2), .sc (.sl x7), .sc (.sl x17), .sc (.int .i64 x18), .sc (.int .i64 (IntKind.wrap .i64 (x19 + 1))), .agg [.int .i64 y3_0, .int .i64 y3_1, .int .i64 y3_2]] r62.H)
   (none))
  (some ⟨3, [], H⟩) := by kernel_rfl
theorem e_sl02Mul_1 (C : Oracle) (x7 : Sl) (x8 x9 : Int) (x24 : Sl) (x25 x26 y3_0 y3_1 y3_2 : Int) (H : AH) : (procM P T C (.loop F.sl02Mul 1) [.sc (.sl x7), .sc (.int .i64 x8), .sc (.int .i64 x9), .sc (.sl x24), .sc (.int .i64 x25), .sc (.int .i64 x26), .agg [.int .i64 y3_0, .int .i64 y3_1, .int .i64 y3_2]] H).run =
  cond (decide (x26 < x25))
  ((ixA x24 x26 1).bind fun o49 =>
   (rdB H x24.b).bind fun c50 =>
   (intAt .i64 c50 o49).bind fun n51 =>
   cond (decide ((IntKind.wrap .i64 (x8 + x26)) < (x7.n : Int)))
   ((ixA x7 (IntKind.wrap .i64 (x8 + x26)) 1).bind fun o52 =>
    (rdB H x7.b).bind fun c53 =>
    (intAt .i64 c53 o52).bind fun n54 =>
    cond (y3_1 == 0)
    (none)
    ((ixA x7 (IntKind.wrap .i64 (x8 + x26)) 1).bind fun o55 =>
     (putR H x7.b o55 [.int .i64 (Int.tmod (IntKind.wrap .i64 (n54 + (IntKind.wrap .i64 (x9 * n51)))) y3_1)]).bind fun H56 =>
     C (.loop F.sl02Mul 1) [.sc (.sl x7), .sc (.int .i64 x8), .sc (.int .i64 x9), .sc (.sl x24), .sc (.int .i64 x25), .sc (.int .i64 (IntKind.wrap .i64 (x26 + 1))), .agg [.int .i64 y3_0, .int .i64 y3_1, .int .i64 y3_2]] H56))
   (cond (y3_0 == 8)
    ((ixA x7 (IntKind.wrap .i64 ((IntKind.wrap .i64 (x8 + x26)) - 4)) 1).bind fun o57 =>
     (rdB H x7.b).bind fun c58 =>
     (intAt .i64 c58 o57).bind fun n59 =>
     cond (y3_1 == 0)
     (none)
     ((ixA x7 (IntKind.wrap .i64 ((IntKind.wrap .i64 (x8 + x26)) - 4)) 1).bind fun o60 =>
      (putR H x7.b o60 [.int .i64 (Int.tmod (IntKind.wrap .i64 (n59 + (IntKind.wrap .i64 ((IntKind.wrap .i64 (y3_1 - x9)) * n51)))) y3_1)]).bind fun H61 =>
      C (.loop F.sl02Mul 1) [.sc (.sl x7), .sc (.int .i64 x8), .sc (.int .i64 x9), .sc (.sl x24), .sc (.int .i64 x25), .sc (.int .i64 (IntKind.wrap .i64 (x26 + 1))), .agg [.int .i64 y3_0, .int .i64 y3_1, .int .i64 y3_2]] H61))
    (C (.loop F.sl02Mul 1) [.sc (.sl x7), .sc (.int .i64 x8), .sc (.int .i64 x9), .sc (.sl x24), .sc (.int .i64 x25), .sc (.int .i64 (IntKind.wrap .i64 (x26 + 1))), .agg [.int .i64 y3_0, .int .i64 y3_1, .int .i64 y3_2]] H)))
  (some ⟨5, [], H⟩) := by kernel_rfl
theorem e_sl02Mul (C : Oracle) (a0_0 a0_1 a0_2 : Int) (a1 a2 : Sl) (H : AH) : (procM P T C (.fn F.sl02Mul) [.agg [.int .i64 a0_0, .int .i64 a0_1, .int .i64 a0_2], .sc (.sl a1), .sc (.sl a2)] H).run =
  (mkB H 1 8 [.int .i64 0] (a1.n : Int) (a1.n : Int)).bind fun m1 =>
  ((cond (a0_0 == 1)
   (some ⟨0, [.sc (.bool (a0_0 == 1))], m1.2⟩)
   (some ⟨0, [.sc (.bool (a0_0 == 6))], m1.2⟩) : Option Out)).bind fun r2 =>
  cond (Nat.beq r2.e 0)
  ((nthP r2.vs 0).bind fun p3 =>
   p3.sc?.bind fun c4 =>
   (boolAt [c4] 0).bind fun b5 =>
   cond b5
   ((ixA a1 0 1).bind fun o6 =>
    (rdB r2.H a1.b).bind fun c7 =>
    (intAt .i64 c7 o6).bind fun n8 =>
    (ixA a2 0 1).bind fun o9 =>
    (rdB r2.H a2.b).bind fun c10 =>
    (intAt .i64 c10 o9).bind fun n11 =>
    (ixA m1.1 0 1).bind fun o12 =>
    (putR r2.H m1.1.b o12 [.int .i64 (bitAnd .i64 n8 n11)]).bind fun H13 =>
    some ⟨1, [.sc (.sl m1.1)], H13⟩)
   (cond (a0_0 == 2)
    ((ixA a1 0 1).bind fun o14 =>
     (rdB r2.H a1.b).bind fun c15 =>
     (intAt .i64 c15 o14).bind fun n16 =>
     (ixA a2 0 1).bind fun o17 =>
     (rdB r2.H a2.b).bind fun c18 =>
     (intAt .i64 c18 o17).bind fun n19 =>
     cond (a0_1 == 0)
     (none)
     ((ixA m1.1 0 1).bind fun o20 =>
      (putR r2.H m1.1.b o20 [.int .i64 (Int.tmod (IntKind.wrap .i64 (n16 * n19)) a0_1)]).bind fun H21 =>
      some ⟨1, [.sc (.sl m1.1)], H21⟩))
    (cond (a0_0 == 3)
     ((ixA a1 0 1).bind fun o22 =>
      (rdB r2.H a1.b).bind fun c23 =>
      (intAt .i64 c23 o22).bind fun n24 =>
      (ixA a2 0 1).bind fun o25 =>
      (rdB r2.H a2.b).bind fun c26 =>
      (intAt .i64 c26 o25).bind fun n27 =>
      (ixA m1.1 0 1).bind fun o28 =>
      (putR r2.H m1.1.b o28 [.int .i64 (if a0_1 < IntKind.wrap .i64 (n24 * n27) then a0_1 else IntKind.wrap .i64 (n24 * n27))]).bind fun H29 =>
      some ⟨1, [.sc (.sl m1.1)], H29⟩)
     (cond (a0_0 == 4)
      ((ixA a1 0 1).bind fun o30 =>
       (rdB r2.H a1.b).bind fun c31 =>
       (intAt .i64 c31 o30).bind fun n32 =>
       (ixA a2 0 1).bind fun o33 =>
       (rdB r2.H a2.b).bind fun c34 =>
       (intAt .i64 c34 o33).bind fun n35 =>
       (ixA m1.1 0 1).bind fun o36 =>
       (putR r2.H m1.1.b o36 [.int .i64 (if a0_1 < IntKind.wrap .i64 (n32 + n35) then a0_1 else IntKind.wrap .i64 (n32 + n35))]).bind fun H37 =>
       some ⟨1, [.sc (.sl m1.1)], H37⟩)
      (cond (a0_0 == 5)
       ((ixA a1 0 1).bind fun o38 =>
        (rdB r2.H a1.b).bind fun c39 =>
        (intAt .i64 c39 o38).bind fun n40 =>
        (ixA a2 0 1).bind fun o41 =>
        (rdB r2.H a2.b).bind fun c42 =>
        (intAt .i64 c42 o41).bind fun n43 =>
        (ixA m1.1 0 1).bind fun o44 =>
        (putR r2.H m1.1.b o44 [.int .i64 (if n43 < n40 then n43 else n40)]).bind fun H45 =>
        some ⟨1, [.sc (.sl m1.1)], H45⟩)
       ((C (.loop F.sl02Mul 0) [.sc (.sl a2), .sc (.sl m1.1), .sc (.sl a1), .sc (.int .i64 (a1.n : Int)), .sc (.int .i64 0), .agg [.int .i64 a0_0, .int .i64 a0_1, .int .i64 a0_2]] r2.H).bind fun r63 =>
        cond (Nat.beq r63.e 3)
        (some ⟨1, [.sc (.sl m1.1)], r63.H⟩)
        (none)))))))
  (none) := by kernel_rfl
/- loop.example/g03211/spec.l05Get -/
theorem e_sl05Get (C : Oracle) (a0_0 a0_1 a0_2 : Int) (a1_0 a1_1 a1_2 : Sl) (a2 : Int) (H : AH) : (procM P T C (.fn F.sl05Get) [.agg [.int .i64 a0_0, .int .i64 a0_1, .int .i64 a0_2], .agg [.sl a1_0, .sl a1_1, .sl a1_2], .sc (.int .i64 a2)] H).run =
  (C (.fn F.sl02Width) [.agg [.int .i64 a0_0, .int .i64 a0_1, .int .i64 a0_2]] H).bind fun r1 =>
  (oneP r1.vs).bind fun p2 =>
  p2.sc?.bind fun c3 =>
  (intAt .i64 [c3] 0).bind fun n4 =>
  (newB r1.H 1 []).bind fun h5 =>
  (slB a1_2 (some (IntKind.wrap .i64 (a2 * n4))) (some (IntKind.wrap .i64 ((IntKind.wrap .i64 (a2 * n4)) + n4))) none 1).bind fun s6 =>
  (rng h5.2 s6.b s6.o (s6.n * 1)).bind fun l7 =>
  (appB h5.2 1 8 ⟨h5.1, 0, 0, 0, true⟩ l7 s6.n).bind fun m8 =>
  some ⟨1, [.sc (.sl m8.1)], m8.2⟩ := by kernel_rfl
/- loop.example/g03211/laws.toIntS -/
theorem e_wtoIntS_0 (C : Oracle) (x0 x3 : Sl) (x4 : Int) (H : AH) : (procM P T C (.loop F.wtoIntS 0) [.sc (.sl x0), .sc (.sl x3), .sc (.int .i64 x4)] H).run =
  cond (decide (x4 < (x0.n : Int)))
  ((ixA x0 x4 1).bind fun o2 =>
   (rdB H x0.b).bind fun c3 =>
   (intAt .i64 c3 o2).bind fun n4 =>
   (ixA x3 x4 1).bind fun o5 =>
   (putR H x3.b o5 [.int .i64 n4]).bind fun H6 =>
   C (.loop F.wtoIntS 0) [.sc (.sl x0), .sc (.sl x3), .sc (.int .i64 (IntKind.wrap .i64 (x4 + 1)))] H6)
  (some ⟨2, [], H⟩) := by kernel_rfl
theorem e_wtoIntS (C : Oracle) (a0 : Sl) (H : AH) : (procM P T C (.fn F.wtoIntS) [.sc (.sl a0)] H).run =
  (mkB H 1 8 [.int .i64 0] (a0.n : Int) (a0.n : Int)).bind fun m1 =>
  (C (.loop F.wtoIntS 0) [.sc (.sl a0), .sc (.sl m1.1), .sc (.int .i64 0)] m1.2).bind fun r7 =>
  cond (Nat.beq r7.e 2)
  (some ⟨1, [.sc (.sl m1.1)], r7.H⟩)
  (none) := by kernel_rfl
/- loop.example/g03211/impl.stateOk -/
theorem e_istateOk (C : Oracle) (a0 a1 : Int) (a2_0 a2_1 a2_2 : Sl) (H : AH) : (procM P T C (.fn F.istateOk) [.sc (.int .i64 a0), .sc (.int .i64 a1), .agg [.sl a2_0, .sl a2_1, .sl a2_2]] H).run =
  (C (.fn F.iomegaRing) [.sc (.int .i64 a0)] H).bind fun r1 =>
  (oneP r1.vs).bind fun p2 =>
  p2.agg?.bind fun l3 =>
  cond (decide (l3.length = 3))
  ((intAt .i64 l3 0).bind fun n4 =>
   (intAt .i64 l3 1).bind fun n5 =>
   (intAt .i64 l3 2).bind fun n6 =>
   (C (.fn F.iTensorOk) [.agg [.int .i64 n4, .int .i64 n5, .int .i64 n6], .agg [.sl a2_0, .sl a2_1, .sl a2_2]] r1.H).bind fun r7 =>
   (oneP r7.vs).bind fun p8 =>
   p8.sc?.bind fun c9 =>
   (boolAt [c9] 0).bind fun b10 =>
   cond b10
   (cond (decide (a1 ≥ 1))
    (cond (decide (a1 ≤ 5))
     ((C (.fn F.ifirstLabels) [.sc (.int .i64 a1)] r7.H).bind fun r11 =>
      (oneP r11.vs).bind fun p12 =>
      p12.sc?.bind fun c13 =>
      (slAt [c13] 0).bind fun s14 =>
      (C (.fn F.iequalInts) [.sc (.sl a2_0), .sc (.sl s14)] r11.H).bind fun r15 =>
      (oneP r15.vs).bind fun p16 =>
      p16.sc?.bind fun c17 =>
      (boolAt [c17] 0).bind fun b18 =>
      cond b18
      ((C (.fn F.itwos) [.sc (.int .i64 a1)] r15.H).bind fun r19 =>
       (oneP r19.vs).bind fun p20 =>
       p20.sc?.bind fun c21 =>
       (slAt [c21] 0).bind fun s22 =>
       (C (.fn F.iequalInts) [.sc (.sl a2_1), .sc (.sl s22)] r19.H).bind fun r23 =>
       (oneP r23.vs).bind fun p24 =>
       p24.sc?.bind fun c25 =>
       (boolAt [c25] 0).bind fun b26 =>
       some ⟨1, [.sc (.bool b26)], r23.H⟩)
      (some ⟨1, [.sc (.bool false)], r15.H⟩))
     (some ⟨1, [.sc (.bool false)], r7.H⟩))
    (some ⟨1, [.sc (.bool false)], r7.H⟩))
   (some ⟨1, [.sc (.bool false)], r7.H⟩))
  (none) := by kernel_rfl
/- loop.example/g03211/impl.PauliOk -/
theorem e_iPauliOk (C : Oracle) (a0 a1_0 a1_1 a1_2 : Int) (H : AH) : (procM P T C (.fn F.iPauliOk) [.sc (.int .i64 a0), .agg [.int .i64 a1_0, .int .i64 a1_1, .int .i64 a1_2]] H).run =
  cond (decide (a0 < 1))
  (some ⟨1, [.sc (.bool false)], H⟩)
  (cond (decide (a0 > 5))
   (some ⟨1, [.sc (.bool false)], H⟩)
   (cond (decide (a0 < 0))
    (none)
    (cond (decide (a1_0 ≥ 0))
     (cond (decide (a1_0 ≤ (IntKind.wrap .i64 ((shlL .i64 1 a0) - 1))))
      (cond (decide (a1_1 ≥ 0))
       (cond (decide (a1_1 ≤ (IntKind.wrap .i64 ((shlL .i64 1 a0) - 1))))
        (cond (a1_2 == 0)
         (some ⟨1, [.sc (.bool true)], H⟩)
         (some ⟨1, [.sc (.bool (a1_2 == 1))], H⟩))
        (some ⟨1, [.sc (.bool false)], H⟩))
       (some ⟨1, [.sc (.bool false)], H⟩))
      (some ⟨1, [.sc (.bool false)], H⟩))
     (some ⟨1, [.sc (.bool false)], H⟩)))) := by kernel_rfl
/- loop.example/g03211/impl.copyTensor -/
theorem e_icopyTensor (C : Oracle) (a0_0 a0_1 a0_2 : Sl) (H : AH) : (procM P T C (.fn F.icopyTensor) [.agg [.sl a0_0, .sl a0_1, .sl a0_2]] H).run =
  (C (.fn F.icopyInts) [.sc (.sl a0_0)] H).bind fun r1 =>
  (oneP r1.vs).bind fun p2 =>
  p2.sc?.bind fun c3 =>
  (slAt [c3] 0).bind fun s4 =>
  (C (.fn F.icopyInts) [.sc (.sl a0_1)] r1.H).bind fun r5 =>
  (oneP r5.vs).bind fun p6 =>
  p6.sc?.bind fun c7 =>
  (slAt [c7] 0).bind fun s8 =>
  (C (.fn F.icopyInts) [.sc (.sl a0_2)] r5.H).bind fun r9 =>
  (oneP r9.vs).bind fun p10 =>
  p10.sc?.bind fun c11 =>
  (slAt [c11] 0).bind fun s12 =>
  some ⟨1, [.agg [.sl s4, .sl s8, .sl s12]], r9.H⟩ := by kernel_rfl
/- loop.example/g03211/impl.applyMatrix -/
theorem e_iapplyMatrix_0 (C : Oracle) (x2 x3 : Sl) (x11 x12 : Int) (y5_0 y5_1 y5_2 : Sl) (y9_0 y9_1 y9_2 : Int) (y10_0 y10_1 y10_2 : Sl) (H : AH) : (procM P T C (.loop F.iapplyMatrix 0) [.sc (.sl x2), .sc (.sl x3), .sc (.int .i64 x11), .sc (.int .i64 x12), .agg [.sl y5_0, .sl y5_1, .sl y5_2], .agg [.int .i64 y9_0, .int .i64 y9_1, .int .i64 y9_2], .agg [.sl y10_0, .sl y10_1, .sl y10_2]] H).run =
  (C (.fn F.iproductOf) [.sc (.sl y5_1)] H).bind fun r17 =>
  (oneP r17.vs).bind fun p18 =>
  p18.sc?.bind fun c19 =>
  (intAt .i64 [c19] 0).bind fun n20 =>
  cond (decide (x12 < n20))
  ((C (.fn F.iindexIn) [.sc (.sl y5_1), .sc (.int .i64 x12)] r17.H).bind fun r21 =>
   (oneP r21.vs).bind fun p22 =>
   p22.sc?.bind fun c23 =>
   (slAt [c23] 0).bind fun s24 =>
   (C (.loop F.iapplyMatrix 1) [.sc (.sl s24), .sc (.int .i64 0), .sc (.sl x2), .sc (.int .i64 (x2.n : Int)), .sc (.int .i64 0)] r21.H).bind fun r31 =>
   cond (Nat.beq r31.e 4)
   ((nthP r31.vs 0).bind fun p32 =>
    p32.sc?.bind fun c33 =>
    (intAt .i64 [c33] 0).bind fun n34 =>
    (C (.loop F.iapplyMatrix 2) [.sc (.sl x2), .sc (.sl x3), .sc (.int .i64 x11), .sc (.int .i64 x12), .sc (.sl s24), .sc (.int .i64 n34), .sc (.int .i64 0), .agg [.sl y5_0, .sl y5_1, .sl y5_2], .agg [.int .i64 y9_0, .int .i64 y9_1, .int .i64 y9_2], .agg [.sl y10_0, .sl y10_1, .sl y10_2]] r31.H).bind fun r66 =>
    cond (Nat.beq r66.e 6)
    (C (.loop F.iapplyMatrix 0) [.sc (.sl x2), .sc (.sl x3), .sc (.int .i64 x11), .sc (.int .i64 (IntKind.wrap .i64 (x12 + 1))), .agg [.sl y5_0, .sl y5_1, .sl y5_2], .agg [.int .i64 y9_0, .int .i64 y9_1, .int .i64 y9_2], .agg [.sl y10_0, .sl y10_1, .sl y10_2]] r66.H)
    (none))
   (none))
  (some ⟨2, [], r17.H⟩) := by kernel_rfl
theorem e_iapplyMatrix_1 (C : Oracle) (x13 : Sl) (x14 : Int) (x45 : Sl) (x46 x47 : Int) (H : AH) : (procM P T C (.loop F.iapplyMatrix 1) [.sc (.sl x13), .sc (.int .i64 x14), .sc (.sl x45), .sc (.int .i64 x46), .sc (.int .i64 x47)] H).run =
  cond (decide (x47 < x46))
  ((ixA x45 x47 1).bind fun o25 =>
   (rdB H x45.b).bind fun c26 =>
   (intAt .i64 c26 o25).bind fun n27 =>
   (ixA x13 n27 1).bind fun o28 =>
   (rdB H x13.b).bind fun c29 =>
   (intAt .i64 c29 o28).bind fun n30 =>
   C (.loop F.iapplyMatrix 1) [.sc (.sl x13), .sc (.int .i64 (IntKind.wrap .i64 ((IntKind.wrap .i64 (x14 * 2)) + n30))), .sc (.sl x45), .sc (.int .i64 x46), .sc (.int .i64 (IntKind.wrap .i64 (x47 + 1)))] H)
  (some ⟨4, [.sc (.int .i64 x14)], H⟩) := by kernel_rfl
theorem e_iapplyMatrix_2 (C : Oracle) (x2 x3 : Sl) (x11 x12 : Int) (x13 : Sl) (x14 x17 : Int) (y5_0 y5_1 y5_2 : Sl) (y9_0 y9_1 y9_2 : Int) (y10_0 y10_1 y10_2 : Sl) (H : AH) : (procM P T C (.loop F.iapplyMatrix 2) [.sc (.sl x2), .sc (.sl x3), .sc (.int .i64 x11), .sc (.int .i64 x12), .sc (.sl x13), .sc (.int .i64 x14), .sc (.int .i64 x17), .agg [.sl y5_0, .sl y5_1, .sl y5_2], .agg [.int .i64 y9_0, .int .i64 y9_1, .int .i64 y9_2], .agg [.sl y10_0, .sl y10_1, .sl y10_2]] H).run =
  cond (decide (x17 < x11))
  ((C (.loop F.iapplyMatrix 3) [.sc (.sl x2), .sc (.sl x13), .sc (.int .i64 x17), .sc (.sl x2), .sc (.int .i64 (x2.n : Int)), .sc (.int .i64 0)] H).bind fun r40 =>
   cond (Nat.beq r40.e 8)
   ((C (.fn F.ioffsetIn) [.sc (.sl y5_1), .sc (.sl x13)] r40.H).bind fun r41 =>
    (oneP r41.vs).bind fun p42 =>
    p42.sc?.bind fun c43 =>
    (intAt .i64 [c43] 0).bind fun n44 =>
    (C (.fn F.irawElem) [.agg [.int .i64 y9_0, .int .i64 y9_1, .int .i64 y9_2], .agg [.sl y5_0, .sl y5_1, .sl y5_2], .sc (.int .i64 n44)] r41.H).bind fun r45 =>
    (oneP r45.vs).bind fun p46 =>
    p46.sc?.bind fun c47 =>
    (slAt [c47] 0).bind fun s48 =>
    (C (.fn F.irawElem) [.agg [.int .i64 y9_0, .int .i64 y9_1, .int .i64 y9_2], .agg [.sl y10_0, .sl y10_1, .sl y10_2], .sc (.int .i64 x12)] r45.H).bind fun r54 =>
    (oneP r54.vs).bind fun p55 =>
    p55.sc?.bind fun c56 =>
    (slAt [c56] 0).bind fun s57 =>
    cond (decide (r54.H.take (r45.H.length) = r45.H.take (r45.H.length)))
    ((ixA x3 (IntKind.wrap .i64 ((IntKind.wrap .i64 (x14 * x11)) + x17)) 1).bind fun o58 =>
     cond (decide (x3.b < r45.H.length))
     ((rdB r54.H x3.b).bind fun c59 =>
      (slAt c59 o58).bind fun s60 =>
      (C (.fn F.irawMul) [.agg [.int .i64 y9_0, .int .i64 y9_1, .int .i64 y9_2], .sc (.sl s60), .sc (.sl s48)] r54.H).bind fun r61 =>
      (oneP r61.vs).bind fun p62 =>
      p62.sc?.bind fun c63 =>
      (slAt [c63] 0).bind fun s64 =>
      (C (.fn F.iaddInto) [.agg [.int .i64 y9_0, .int .i64 y9_1, .int .i64 y9_2], .sc (.sl s57), .sc (.sl s64)] r61.H).bind fun r65 =>
      C (.loop F.iapplyMatrix 2) [.sc (.sl x2), .sc (.sl x3), .sc (.int .i64 x11), .sc (.int .i64 x12), .sc (.sl x13), .sc (.int .i64 x14), .sc (.int .i64 (IntKind.wrap .i64 (x17 + 1))), .agg [.sl y5_0, .sl y5_1, .sl y5_2], .agg [.int .i64 y9_0, .int .i64 y9_1, .int .i64 y9_2], .agg [.sl y10_0, .sl y10_1, .sl y10_2]] r65.H)
     (none))
    (none))
   (none))
  (some ⟨6, [], H⟩) := by kernel_rfl
theorem e_iapplyMatrix_3 (C : Oracle) (x2 x13 : Sl) (x17 : Int) (x64 : Sl) (x65 x66 : Int) (H : AH) : (procM P T C (.loop F.iapplyMatrix 3) [.sc (.sl x2), .sc (.sl x13), .sc (.int .i64 x17), .sc (.sl x64), .sc (.int .i64 x65), .sc (.int .i64 x66)] H).run =
  cond (decide (x66 < x65))
  ((ixA x64 x66 1).bind fun o35 =>
   (rdB H x64.b).bind fun c36 =>
   (intAt .i64 c36 o35).bind fun n37 =>
   cond (decide ((IntKind.wrap .i64 ((IntKind.wrap .i64 ((x2.n : Int) - 1)) - x66)) < 0))
   (none)
   ((ixA x13 n37 1).bind fun o38 =>
    (putR H x13.b o38 [.int .i64 (bitAnd .i64 (shlR .i64 x17 (IntKind.wrap .i64 ((IntKind.wrap .i64 ((x2.n : Int) - 1)) - x66))) 1)]).bind fun H39 =>
    C (.loop F.iapplyMatrix 3) [.sc (.sl x2), .sc (.sl x13), .sc (.int .i64 x17), .sc (.sl x64), .sc (.int .i64 x65), .sc (.int .i64 (IntKind.wrap .i64 (x66 + 1)))] H39))
  (some ⟨8, [], H⟩) := by kernel_rfl
theorem e_iapplyMatrix (C : Oracle) (a0 : Int) (a1_0 a1_1 a1_2 a2 a3 : Sl) (H : AH) : (procM P T C (.fn F.iapplyMatrix) [.sc (.int .i64 a0), .agg [.sl a1_0, .sl a1_1, .sl a1_2], .sc (.sl a2), .sc (.sl a3)] H).run =
  (C (.fn F.iomegaRing) [.sc (.int .i64 a0)] H).bind fun r1 =>
  (oneP r1.vs).bind fun p2 =>
  p2.agg?.bind fun l3 =>
  cond (decide (l3.length = 3))
  ((intAt .i64 l3 0).bind fun n4 =>
   (intAt .i64 l3 1).bind fun n5 =>
   (intAt .i64 l3 2).bind fun n6 =>
   (C (.fn F.irawZero) [.agg [.int .i64 n4, .int .i64 n5, .int .i64 n6]] r1.H).bind fun r7 =>
   (oneP r7.vs).bind fun p8 =>
   p8.sc?.bind fun c9 =>
   (slAt [c9] 0).bind fun s10 =>
   (C (.fn F.ifillTensor) [.agg [.int .i64 n4, .int .i64 n5, .int .i64 n6], .sc (.sl a1_0), .sc (.sl a1_1), .sc (.sl s10)] r7.H).bind fun r11 =>
   (oneP r11.vs).bind fun p12 =>
   p12.agg?.bind fun l13 =>
   cond (decide (l13.length = 3))
   ((slAt l13 0).bind fun s14 =>
    (slAt l13 1).bind fun s15 =>
    (slAt l13 2).bind fun s16 =>
    cond (decide ((a2.n : Int) < 0))
    (none)
    ((C (.loop F.iapplyMatrix 0) [.sc (.sl a2), .sc (.sl a3), .sc (.int .i64 (shlL .i64 1 (a2.n : Int))), .sc (.int .i64 0), .agg [.sl a1_0, .sl a1_1, .sl a1_2], .agg [.int .i64 n4, .int .i64 n5, .int .i64 n6], .agg [.sl s14, .sl s15, .sl s16]] r11.H).bind fun r67 =>
     cond (Nat.beq r67.e 2)
     (some ⟨1, [.agg [.sl s14, .sl s15, .sl s16]], r67.H⟩)
     (none)))
   (none))
  (none) := by kernel_rfl
/- loop.example/g03211/impl.rootElem -/
theorem e_irootElem (C : Oracle) (a0 a1 : Int) (H : AH) : (procM P T C (.fn F.irootElem) [.sc (.int .i64 a0), .sc (.int .i64 a1)] H).run =
  (mkB H 1 8 [.int .i64 0] 4 4).bind fun m1 =>
  cond (decide (a1 < 4))
  ((ixA m1.1 a1 1).bind fun o2 =>
   (putR m1.2 m1.1.b o2 [.int .i64 1]).bind fun H3 =>
   some ⟨1, [.sc (.sl m1.1)], H3⟩)
  ((ixA m1.1 (IntKind.wrap .i64 (a1 - 4)) 1).bind fun o4 =>
   (putR m1.2 m1.1.b o4 [.int .i64 (IntKind.wrap .i64 (a0 - 1))]).bind fun H5 =>
   some ⟨1, [.sc (.sl m1.1)], H5⟩) := by kernel_rfl
/- loop.example/g03211/impl.gateMatrix -/
theorem e_igateMatrix_0 (C : Oracle) (x5 : Int) (x6 x7 x8 : Sl) (x25 x26 : Int) (H : AH) : (procM P T C (.loop F.igateMatrix 0) [.sc (.int .i64 x5), .sc (.sl x6), .sc (.sl x7), .sc (.sl x8), .sc (.int .i64 x25), .sc (.int .i64 x26)] H).run =
  cond (decide (x26 < x25))
  ((ixA x8 x26 1).bind fun o11 =>
   (putR H x8.b o11 [.sl x6]).bind fun H12 =>
   cond (x5 == 0)
   (none)
   (cond (x5 == 0)
    (none)
    (cond ((IntKind.wrap .i64 (Int.tdiv x26 x5)) == (Int.tmod x26 x5))
     ((ixA x8 x26 1).bind fun o13 =>
      (putR H12 x8.b o13 [.sl x7]).bind fun H14 =>
      C (.loop F.igateMatrix 0) [.sc (.int .i64 x5), .sc (.sl x6), .sc (.sl x7), .sc (.sl x8), .sc (.int .i64 x25), .sc (.int .i64 (IntKind.wrap .i64 (x26 + 1)))] H14)
     (C (.loop F.igateMatrix 0) [.sc (.int .i64 x5), .sc (.sl x6), .sc (.sl x7), .sc (.sl x8), .sc (.int .i64 x25), .sc (.int .i64 (IntKind.wrap .i64 (x26 + 1)))] H12))))
  (some ⟨2, [], H⟩) := by kernel_rfl
theorem e_igateMatrix (C : Oracle) (a0 a1 : Int) (H : AH) : (procM P T C (.fn F.igateMatrix) [.sc (.int .i64 a0), .sc (.int .i64 a1)] H).run =
  ((cond (decide (a1 ≥ 8))
   (some ⟨0, [.sc (.int .i64 4)], H⟩)
   (some ⟨0, [.sc (.int .i64 2)], H⟩) : Option Out)).bind fun r1 =>
  cond (Nat.beq r1.e 0)
  ((nthP r1.vs 0).bind fun p2 =>
   p2.sc?.bind fun c3 =>
   (intAt .i64 [c3] 0).bind fun n4 =>
   (mkAt (reserve r1.H 1) (r1.H.length + 0) 1 8 [.int .i64 0] 4 4).bind fun m5 =>
   (C (.fn F.irootElem) [.sc (.int .i64 a0), .sc (.int .i64 0)] (m5.2.set (r1.H.length + 0) deadB)).bind fun r6 =>
   (oneP r6.vs).bind fun p7 =>
   p7.sc?.bind fun c8 =>
   (slAt [c8] 0).bind fun s9 =>
   cond (decide (r6.H.length ≥ m5.2.length))
   ((mkB (restB m5.2 r6.H (r1.H.length + 0)) 1 24 [.sl ⟨0, 0, 0, 0, true⟩] (IntKind.wrap .i64 (n4 * n4)) (IntKind.wrap .i64 (n4 * n4))).bind fun m10 =>
    (C (.loop F.igateMatrix 0) [.sc (.int .i64 n4), .sc (.sl m5.1), .sc (.sl s9), .sc (.sl m10.1), .sc (.int .i64 (m10.1.n : Int)), .sc (.int .i64 0)] m10.2).bind fun r15 =>
    cond (Nat.beq r15.e 2)
    ((C (.fn F.iphaseOf) [.sc (.int .i64 a1)] r15.H).bind fun r16 =>
     (lenP r16.vs 2).bind fun _ =>
     (nthP r16.vs 0).bind fun p17 =>
     p17.sc?.bind fun c18 =>
     (intAt .i64 [c18] 0).bind fun n19 =>
     (nthP r16.vs 1).bind fun p20 =>
     p20.sc?.bind fun c21 =>
     (boolAt [c21] 0).bind fun b22 =>
     cond b22
     ((C (.fn F.irootElem) [.sc (.int .i64 a0), .sc (.int .i64 n19)] r16.H).bind fun r23 =>
      (oneP r23.vs).bind fun p24 =>
      p24.sc?.bind fun c25 =>
      (slAt [c25] 0).bind fun s26 =>
      (ixA m10.1 (IntKind.wrap .i64 ((IntKind.wrap .i64 (n4 * n4)) - 1)) 1).bind fun o27 =>
      (putR r23.H m10.1.b o27 [.sl s26]).bind fun H28 =>
      some ⟨1, [.sc (.sl m10.1)], H28⟩)
     (cond (a1 == 1)
      ((newB r16.H 1 [.sl m5.1, .sl s9, .sl s9, .sl m5.1]).bind fun h29 =>
       some ⟨1, [.sc (.sl ⟨h29.1, 0, 4, 4, true⟩)], h29.2⟩)
      (cond (a1 == 5)
       ((C (.fn F.irawInverse) [.sc (.int .i64 a0), .sc (.int .i64 2)] r16.H).bind fun r30 =>
        (oneP r30.vs).bind fun p31 =>
        p31.sc?.bind fun c32 =>
        (intAt .i64 [c32] 0).bind fun n33 =>
        (newB r30.H 1 [.int .i64 0, .int .i64 n33, .int .i64 0, .int .i64 (IntKind.wrap .i64 (a0 - n33))]).bind fun h34 =>
        (newB h34.2 1 [.int .i64 0, .int .i64 (IntKind.wrap .i64 (a0 - n33)), .int .i64 0, .int .i64 n33]).bind fun h35 =>
        (newB h35.2 1 [.sl ⟨h34.1, 0, 4, 4, true⟩, .sl ⟨h34.1, 0, 4, 4, true⟩, .sl ⟨h34.1, 0, 4, 4, true⟩, .sl ⟨h35.1, 0, 4, 4, true⟩]).bind fun h36 =>
        some ⟨1, [.sc (.sl ⟨h36.1, 0, 4, 4, true⟩)], h36.2⟩)
       ((ixA m10.1 10 1).bind fun o37 =>
        (putR r16.H m10.1.b o37 [.sl m5.1]).bind fun H38 =>
        (ixA m10.1 11 1).bind fun o39 =>
        (putR H38 m10.1.b o39 [.sl s9]).bind fun H40 =>
        (ixA m10.1 14 1).bind fun o41 =>
        (putR H40 m10.1.b o41 [.sl s9]).bind fun H42 =>
        (ixA m10.1 15 1).bind fun o43 =>
        (putR H42 m10.1.b o43 [.sl m5.1]).bind fun H44 =>
        some ⟨1, [.sc (.sl m10.1)], H44⟩))))
    (none))
   (none))
  (none) := by kernel_rfl
/- loop.example/g03211/impl.ScaleTensor -/
theorem e_iScaleTensor_0 (C : Oracle) (x2 : Sl) (x8 y3_0 y3_1 y3_2 : Int) (y4_0 y4_1 y4_2 y7_0 y7_1 y7_2 : Sl) (H : AH) : (procM P T C (.loop F.iScaleTensor 0) [.sc (.sl x2), .sc (.int .i64 x8), .agg [.int .i64 y3_0, .int .i64 y3_1, .int .i64 y3_2], .agg [.sl y4_0, .sl y4_1, .sl y4_2], .agg [.sl y7_0, .sl y7_1, .sl y7_2]] H).run =
  (C (.fn F.iproductOf) [.sc (.sl y4_1)] H).bind fun r15 =>
  (oneP r15.vs).bind fun p16 =>
  p16.sc?.bind fun c17 =>
  (intAt .i64 [c17] 0).bind fun n18 =>
  cond (decide (x8 < n18))
  ((C (.fn F.irawElem) [.agg [.int .i64 y3_0, .int .i64 y3_1, .int .i64 y3_2], .agg [.sl y7_0, .sl y7_1, .sl y7_2], .sc (.int .i64 x8)] r15.H).bind fun r19 =>
   (oneP r19.vs).bind fun p20 =>
   p20.sc?.bind fun c21 =>
   (slAt [c21] 0).bind fun s22 =>
   (C (.fn F.irawElem) [.agg [.int .i64 y3_0, .int .i64 y3_1, .int .i64 y3_2], .agg [.sl y4_0, .sl y4_1, .sl y4_2], .sc (.int .i64 x8)] r19.H).bind fun r23 =>
   (oneP r23.vs).bind fun p24 =>
   p24.sc?.bind fun c25 =>
   (slAt [c25] 0).bind fun s26 =>
   (C (.fn F.imulInto) [.agg [.int .i64 y3_0, .int .i64 y3_1, .int .i64 y3_2], .sc (.sl s22), .sc (.sl x2), .sc (.sl s26)] r23.H).bind fun r27 =>
   C (.loop F.iScaleTensor 0) [.sc (.sl x2), .sc (.int .i64 (IntKind.wrap .i64 (x8 + 1))), .agg [.int .i64 y3_0, .int .i64 y3_1, .int .i64 y3_2], .agg [.sl y4_0, .sl y4_1, .sl y4_2], .agg [.sl y7_0, .sl y7_1, .sl y7_2]] r27.H)
  (some ⟨2, [], r15.H⟩) := by kernel_rfl
theorem e_iScaleTensor (C : Oracle) (a0_0 a0_1 a0_2 : Int) (a1_0 a1_1 a1_2 a2 : Sl) (H : AH) : (procM P T C (.fn F.iScaleTensor) [.agg [.int .i64 a0_0, .int .i64 a0_1, .int .i64 a0_2], .agg [.sl a1_0, .sl a1_1, .sl a1_2], .sc (.sl a2)] H).run =
  (C (.fn F.iTensorOk) [.agg [.int .i64 a0_0, .int .i64 a0_1, .int .i64 a0_2], .agg [.sl a1_0, .sl a1_1, .sl a1_2]] H).bind fun r1 =>
  (oneP r1.vs).bind fun p2 =>
  p2.sc?.bind fun c3 =>
  (boolAt [c3] 0).bind fun b4 =>
  cond (!b4)
  (some ⟨1, [.agg [.sl ⟨0, 0, 0, 0, true⟩, .sl ⟨0, 0, 0, 0, true⟩, .sl ⟨0, 0, 0, 0, true⟩]], r1.H⟩)
  ((C (.fn F.iElemOk) [.agg [.int .i64 a0_0, .int .i64 a0_1, .int .i64 a0_2], .sc (.sl a2)] r1.H).bind fun r5 =>
   (oneP r5.vs).bind fun p6 =>
   p6.sc?.bind fun c7 =>
   (boolAt [c7] 0).bind fun b8 =>
   cond (!b8)
   (some ⟨1, [.agg [.sl ⟨0, 0, 0, 0, true⟩, .sl ⟨0, 0, 0, 0, true⟩, .sl ⟨0, 0, 0, 0, true⟩]], r5.H⟩)
   ((C (.fn F.icopyTensor) [.agg [.sl a1_0, .sl a1_1, .sl a1_2]] r5.H).bind fun r9 =>
    (oneP r9.vs).bind fun p10 =>
    p10.agg?.bind fun l11 =>
    cond (decide (l11.length = 3))
    ((slAt l11 0).bind fun s12 =>
     (slAt l11 1).bind fun s13 =>
     (slAt l11 2).bind fun s14 =>
     (C (.loop F.iScaleTensor 0) [.sc (.sl a2), .sc (.int .i64 0), .agg [.int .i64 a0_0, .int .i64 a0_1, .int .i64 a0_2], .agg [.sl a1_0, .sl a1_1, .sl a1_2], .agg [.sl s12, .sl s13, .sl s14]] r9.H).bind fun r28 =>
     cond (Nat.beq r28.e 2)
     (some ⟨1, [.agg [.sl s12, .sl s13, .sl s14]], r28.H⟩)
     (none))
    (none))) := by kernel_rfl
/- loop.example/g03211/impl.omegaRing -/
theorem e_iomegaRing (C : Oracle) (a0 : Int) (H : AH) : (procM P T C (.fn F.iomegaRing) [.sc (.int .i64 a0)] H).run =
  some ⟨1, [.agg [.int .i64 8, .int .i64 a0, .int .i64 0]], H⟩ := by kernel_rfl
/- loop.example/g03211/laws.eqIntS -/
theorem e_weqIntS_0 (C : Oracle) (x0 x1 : Sl) (x5 : Int) (H : AH) : (procM P T C (.loop F.weqIntS 0) [.sc (.sl x0), .sc (.sl x1), .sc (.int .i64 x5)] H).run =
  cond (decide (x5 < (x0.n : Int)))
  ((ixA x0 x5 1).bind fun o1 =>
   (rdB H x0.b).bind fun c2 =>
   (intAt .i64 c2 o1).bind fun n3 =>
   (ixA x1 x5 1).bind fun o4 =>
   (rdB H x1.b).bind fun c5 =>
   (intAt .i64 c5 o4).bind fun n6 =>
   cond (n3 != n6)
   (some ⟨1, [.sc (.bool false)], H⟩)
   (C (.loop F.weqIntS 0) [.sc (.sl x0), .sc (.sl x1), .sc (.int .i64 (IntKind.wrap .i64 (x5 + 1)))] H))
  (some ⟨2, [], H⟩) := by kernel_rfl
theorem e_weqIntS (C : Oracle) (a0 a1 : Sl) (H : AH) : (procM P T C (.fn F.weqIntS) [.sc (.sl a0), .sc (.sl a1)] H).run =
  cond ((a0.n : Int) != (a1.n : Int))
  (some ⟨1, [.sc (.bool false)], H⟩)
  ((C (.loop F.weqIntS 0) [.sc (.sl a0), .sc (.sl a1), .sc (.int .i64 0)] H).bind fun r7 =>
   cond (Nat.beq r7.e 1)
   ((nthP r7.vs 0).bind fun p8 =>
    p8.sc?.bind fun c9 =>
    (boolAt [c9] 0).bind fun b10 =>
    some ⟨1, [.sc (.bool b10)], r7.H⟩)
   (cond (Nat.beq r7.e 2)
    (some ⟨1, [.sc (.bool true)], r7.H⟩)
    (none))) := by kernel_rfl
/- loop.example/g03211/laws.markIntS -/
theorem e_wmarkIntS_0 (C : Oracle) (x0 : Sl) (x1 x5 : Int) (H : AH) : (procM P T C (.loop F.wmarkIntS 0) [.sc (.sl x0), .sc (.int .i64 x1), .sc (.int .i64 x5)] H).run =
  cond (decide (x5 < (x0.n : Int)))
  ((ixA x0 x5 1).bind fun o1 =>
   (putR H x0.b o1 [.int .i64 x1]).bind fun H2 =>
   C (.loop F.wmarkIntS 0) [.sc (.sl x0), .sc (.int .i64 (IntKind.wrap .i64 (x1 + 1))), .sc (.int .i64 (IntKind.wrap .i64 (x5 + 1)))] H2)
  (some ⟨2, [.sc (.int .i64 x1)], H⟩) := by kernel_rfl
theorem e_wmarkIntS (C : Oracle) (a0 : Sl) (a1 : Int) (H : AH) : (procM P T C (.fn F.wmarkIntS) [.sc (.sl a0), .sc (.int .i64 a1)] H).run =
  (C (.loop F.wmarkIntS 0) [.sc (.sl a0), .sc (.int .i64 a1), .sc (.int .i64 0)] H).bind fun r3 =>
  cond (Nat.beq r3.e 2)
  ((nthP r3.vs 0).bind fun p4 =>
   p4.sc?.bind fun c5 =>
   (intAt .i64 [c5] 0).bind fun n6 =>
   some ⟨1, [.sc (.int .i64 n6)], r3.H⟩)
  (none) := by kernel_rfl
/- loop.example/g03211/laws.heldIntS -/
theorem e_wheldIntS_0 (C : Oracle) (x0 : Sl) (x1 x5 : Int) (H : AH) : (procM P T C (.loop F.wheldIntS 0) [.sc (.sl x0), .sc (.int .i64 x1), .sc (.int .i64 x5)] H).run =
  cond (decide (x5 < (x0.n : Int)))
  ((ixA x0 x5 1).bind fun o1 =>
   (rdB H x0.b).bind fun c2 =>
   (intAt .i64 c2 o1).bind fun n3 =>
   cond (n3 != x1)
   (some ⟨1, [.sc (.int .i64 (-1))], H⟩)
   (C (.loop F.wheldIntS 0) [.sc (.sl x0), .sc (.int .i64 (IntKind.wrap .i64 (x1 + 1))), .sc (.int .i64 (IntKind.wrap .i64 (x5 + 1)))] H))
  (some ⟨2, [.sc (.int .i64 x1)], H⟩) := by kernel_rfl
theorem e_wheldIntS (C : Oracle) (a0 : Sl) (a1 : Int) (H : AH) : (procM P T C (.fn F.wheldIntS) [.sc (.sl a0), .sc (.int .i64 a1)] H).run =
  (C (.loop F.wheldIntS 0) [.sc (.sl a0), .sc (.int .i64 a1), .sc (.int .i64 0)] H).bind fun r4 =>
  cond (Nat.beq r4.e 1)
  ((nthP r4.vs 0).bind fun p5 =>
   p5.sc?.bind fun c6 =>
   (intAt .i64 [c6] 0).bind fun n7 =>
   some ⟨1, [.sc (.int .i64 n7)], r4.H⟩)
  (cond (Nat.beq r4.e 2)
   ((nthP r4.vs 0).bind fun p8 =>
    p8.sc?.bind fun c9 =>
    (intAt .i64 [c9] 0).bind fun n10 =>
    some ⟨1, [.sc (.int .i64 n10)], r4.H⟩)
   (none)) := by kernel_rfl
/- loop.example/g03211/spec.RingOk -/
theorem e_sRingOk (C : Oracle) (a0_0 a0_1 a0_2 : Int) (H : AH) : (procM P T C (.fn F.sRingOk) [.agg [.int .i64 a0_0, .int .i64 a0_1, .int .i64 a0_2]] H).run =
  cond (a0_0 == 1)
  (cond (a0_1 == 0)
   (some ⟨1, [.sc (.bool (a0_2 == 0))], H⟩)
   (some ⟨1, [.sc (.bool false)], H⟩))
  (cond (a0_0 == 2)
   ((C (.fn F.sIsPrime) [.sc (.int .i64 a0_1)] H).bind fun r1 =>
    (oneP r1.vs).bind fun p2 =>
    p2.sc?.bind fun c3 =>
    (boolAt [c3] 0).bind fun b4 =>
    cond b4
    (some ⟨1, [.sc (.bool (a0_2 == 0))], r1.H⟩)
    (some ⟨1, [.sc (.bool false)], r1.H⟩))
   (((cond (a0_0 == 3)
   (some ⟨0, [.sc (.bool (a0_0 == 3))], H⟩)
   (cond (a0_0 == 4)
    (some ⟨0, [.sc (.bool (a0_0 == 4))], H⟩)
    (some ⟨0, [.sc (.bool (a0_0 == 5))], H⟩)) : Option Out)).bind fun r5 =>
    cond (Nat.beq r5.e 0)
    ((nthP r5.vs 0).bind fun p6 =>
     p6.sc?.bind fun c7 =>
     (boolAt [c7] 0).bind fun b8 =>
     cond b8
     ((C (.fn F.sl01In) [.sc (.int .i64 a0_1), .sc (.int .i64 1), .sc (.int .i64 1000000)] r5.H).bind fun r9 =>
      (oneP r9.vs).bind fun p10 =>
      p10.sc?.bind fun c11 =>
      (boolAt [c11] 0).bind fun b12 =>
      cond b12
      (some ⟨1, [.sc (.bool (a0_2 == 0))], r9.H⟩)
      (some ⟨1, [.sc (.bool false)], r9.H⟩))
     (cond (a0_0 == 6)
      (cond (a0_1 == 0)
       ((C (.fn F.sl01In) [.sc (.int .i64 a0_2), .sc (.int .i64 1), .sc (.int .i64 20)] r5.H).bind fun r13 =>
        (oneP r13.vs).bind fun p14 =>
        p14.sc?.bind fun c15 =>
        (boolAt [c15] 0).bind fun b16 =>
        some ⟨1, [.sc (.bool b16)], r13.H⟩)
       (some ⟨1, [.sc (.bool false)], r5.H⟩))
      (cond (a0_0 == 7)
       ((C (.fn F.sIsPrime) [.sc (.int .i64 a0_1)] r5.H).bind fun r17 =>
        (oneP r17.vs).bind fun p18 =>
        p18.sc?.bind fun c19 =>
        (boolAt [c19] 0).bind fun b20 =>
        cond b20
        ((C (.fn F.sl01In) [.sc (.int .i64 a0_2), .sc (.int .i64 1), .sc (.int .i64 6)] r17.H).bind fun r21 =>
         (oneP r21.vs).bind fun p22 =>
         p22.sc?.bind fun c23 =>
         (boolAt [c23] 0).bind fun b24 =>
         some ⟨1, [.sc (.bool b24)], r21.H⟩)
        (some ⟨1, [.sc (.bool false)], r17.H⟩))
       (cond (a0_0 == 8)
        ((C (.fn F.sIsPrime) [.sc (.int .i64 a0_1)] r5.H).bind fun r25 =>
         (oneP r25.vs).bind fun p26 =>
         p26.sc?.bind fun c27 =>
         (boolAt [c27] 0).bind fun b28 =>
         cond b28
         (cond (decide (a0_1 > 2))
          (some ⟨1, [.sc (.bool (a0_2 == 0))], r25.H⟩)
          (some ⟨1, [.sc (.bool false)], r25.H⟩))
         (some ⟨1, [.sc (.bool false)], r25.H⟩))
        (some ⟨1, [.sc (.bool false)], r5.H⟩)))))
    (none))) := by kernel_rfl
/- loop.example/g03211/spec.l05Find -/
theorem e_sl05Find_0 (C : Oracle) (x1 : Int) (x7 : Sl) (x8 x9 : Int) (H : AH) : (procM P T C (.loop F.sl05Find 0) [.sc (.int .i64 x1), .sc (.sl x7), .sc (.int .i64 x8), .sc (.int .i64 x9)] H).run =
  cond (decide (x9 < x8))
  ((ixA x7 x9 1).bind fun o1 =>
   (rdB H x7.b).bind fun c2 =>
   (intAt .i64 c2 o1).bind fun n3 =>
   cond (n3 == x1)
   (some ⟨1, [.sc (.int .i64 x9)], H⟩)
   (C (.loop F.sl05Find 0) [.sc (.int .i64 x1), .sc (.sl x7), .sc (.int .i64 x8), .sc (.int .i64 (IntKind.wrap .i64 (x9 + 1)))] H))
  (some ⟨2, [], H⟩) := by kernel_rfl
theorem e_sl05Find (C : Oracle) (a0 : Sl) (a1 : Int) (H : AH) : (procM P T C (.fn F.sl05Find) [.sc (.sl a0), .sc (.int .i64 a1)] H).run =
  (C (.loop F.sl05Find 0) [.sc (.int .i64 a1), .sc (.sl a0), .sc (.int .i64 (a0.n : Int)), .sc (.int .i64 0)] H).bind fun r4 =>
  cond (Nat.beq r4.e 1)
  ((nthP r4.vs 0).bind fun p5 =>
   p5.sc?.bind fun c6 =>
   (intAt .i64 [c6] 0).bind fun n7 =>
   some ⟨1, [.sc (.int .i64 n7)], r4.H⟩)
  (cond (Nat.beq r4.e 2)
   (some ⟨1, [.sc (.int .i64 (-1))], r4.H⟩)
   (none)) := by kernel_rfl
/- loop.example/g03211/spec.l05Zero -/
theorem e_sl05Zero_0 (C : Oracle) (x8 y3_0 y3_1 y3_2 : Int) (y7_0 y7_1 y7_2 : Sl) (H : AH) : (procM P T C (.loop F.sl05Zero 0) [.sc (.int .i64 x8), .agg [.int .i64 y3_0, .int .i64 y3_1, .int .i64 y3_2], .agg [.sl y7_0, .sl y7_1, .sl y7_2]] H).run =
  cond (decide (x8 > 0))
  ((C (.fn F.sl02Zero) [.agg [.int .i64 y3_0, .int .i64 y3_1, .int .i64 y3_2]] H).bind fun r13 =>
   (oneP r13.vs).bind fun p14 =>
   p14.sc?.bind fun c15 =>
   (slAt [c15] 0).bind fun s16 =>
   (rng r13.H s16.b s16.o (s16.n * 1)).bind fun l17 =>
   (appB r13.H 1 8 y7_2 l17 s16.n).bind fun m18 =>
   C (.loop F.sl05Zero 0) [.sc (.int .i64 (IntKind.wrap .i64 (x8 - 1))), .agg [.int .i64 y3_0, .int .i64 y3_1, .int .i64 y3_2], .agg [.sl y7_0, .sl y7_1, .sl m18.1]] m18.2)
  (some ⟨2, [.agg [.sl y7_0, .sl y7_1, .sl y7_2]], H⟩) := by kernel_rfl
theorem e_sl05Zero (C : Oracle) (a0_0 a0_1 a0_2 : Int) (a1 a2 : Sl) (H : AH) : (procM P T C (.fn F.sl05Zero) [.agg [.int .i64 a0_0, .int .i64 a0_1, .int .i64 a0_2], .sc (.sl a1), .sc (.sl a2)] H).run =
  (C (.fn F.sl05Ints) [.sc (.sl a1)] H).bind fun r1 =>
  (oneP r1.vs).bind fun p2 =>
  p2.sc?.bind fun c3 =>
  (slAt [c3] 0).bind fun s4 =>
  (C (.fn F.sl05Ints) [.sc (.sl a2)] r1.H).bind fun r5 =>
  (oneP r5.vs).bind fun p6 =>
  p6.sc?.bind fun c7 =>
  (slAt [c7] 0).bind fun s8 =>
  (C (.fn F.sl05Product) [.sc (.sl a2), .sc (.int .i64 4096)] r5.H).bind fun r9 =>
  (oneP r9.vs).bind fun p10 =>
  p10.sc?.bind fun c11 =>
  (intAt .i64 [c11] 0).bind fun n12 =>
  (C (.loop F.sl05Zero 0) [.sc (.int .i64 n12), .agg [.int .i64 a0_0, .int .i64 a0_1, .int .i64 a0_2], .agg [.sl s4, .sl s8, .sl ⟨0, 0, 0, 0, true⟩]] r9.H).bind fun r19 =>
  cond (Nat.beq r19.e 2)
  (((nthP r19.vs 0).bind PV.agg?).bind fun l20 =>
   cond (decide (l20.length = 3))
   ((slAt l20 0).bind fun s21 =>
    (slAt l20 1).bind fun s22 =>
    (slAt l20 2).bind fun s23 =>
    some ⟨1, [.agg [.sl s21, .sl s22, .sl s23]], r19.H⟩)
   (none))
  (none) := by kernel_rfl
/- loop.example/g03211/spec.l05Product -/
theorem e_sl05Product_0 (C : Oracle) (x1 x5 : Int) (x8 : Sl) (x9 x10 : Int) (H : AH) : (procM P T C (.loop F.sl05Product 0) [.sc (.int .i64 x1), .sc (.int .i64 x5), .sc (.sl x8), .sc (.int .i64 x9), .sc (.int .i64 x10)] H).run =
  cond (decide (x10 < x9))
  ((ixA x8 x10 1).bind fun o1 =>
   (rdB H x8.b).bind fun c2 =>
   (intAt .i64 c2 o1).bind fun n3 =>
   C (.loop F.sl05Product 0) [.sc (.int .i64 x1), .sc (.int .i64 (if IntKind.wrap .i64 (x1 + 1) < IntKind.wrap .i64 (x5 * n3) then IntKind.wrap .i64 (x1 + 1) else IntKind.wrap .i64 (x5 * n3))), .sc (.sl x8), .sc (.int .i64 x9), .sc (.int .i64 (IntKind.wrap .i64 (x10 + 1)))] H)
  (some ⟨2, [.sc (.int .i64 x5)], H⟩) := by kernel_rfl
theorem e_sl05Product (C : Oracle) (a0 : Sl) (a1 : Int) (H : AH) : (procM P T C (.fn F.sl05Product) [.sc (.sl a0), .sc (.int .i64 a1)] H).run =
  (C (.loop F.sl05Product 0) [.sc (.int .i64 a1), .sc (.int .i64 1), .sc (.sl a0), .sc (.int .i64 (a0.n : Int)), .sc (.int .i64 0)] H).bind fun r4 =>
  cond (Nat.beq r4.e 2)
  ((nthP r4.vs 0).bind fun p5 =>
   p5.sc?.bind fun c6 =>
   (intAt .i64 [c6] 0).bind fun n7 =>
   some ⟨1, [.sc (.int .i64 n7)], r4.H⟩)
  (none) := by kernel_rfl
/- loop.example/g03211/spec.l02One -/
theorem e_sl02One (C : Oracle) (a0_0 a0_1 a0_2 : Int) (H : AH) : (procM P T C (.fn F.sl02One) [.agg [.int .i64 a0_0, .int .i64 a0_1, .int .i64 a0_2]] H).run =
  (C (.fn F.sl02Width) [.agg [.int .i64 a0_0, .int .i64 a0_1, .int .i64 a0_2]] H).bind fun r1 =>
  (oneP r1.vs).bind fun p2 =>
  p2.sc?.bind fun c3 =>
  (intAt .i64 [c3] 0).bind fun n4 =>
  (mkB r1.H 1 8 [.int .i64 0] n4 n4).bind fun m5 =>
  ((cond (a0_0 == 5)
   (some ⟨0, [.sc (.bool (a0_0 == 5))], m5.2⟩)
   (some ⟨0, [.sc (.bool (a0_0 == 6))], m5.2⟩) : Option Out)).bind fun r6 =>
  cond (Nat.beq r6.e 0)
  ((nthP r6.vs 0).bind fun p7 =>
   p7.sc?.bind fun c8 =>
   (boolAt [c8] 0).bind fun b9 =>
   cond b9
   ((C (.fn F.sl02Top) [.agg [.int .i64 a0_0, .int .i64 a0_1, .int .i64 a0_2]] r6.H).bind fun r10 =>
    (oneP r10.vs).bind fun p11 =>
    p11.sc?.bind fun c12 =>
    (intAt .i64 [c12] 0).bind fun n13 =>
    (ixA m5.1 0 1).bind fun o14 =>
    (putR r10.H m5.1.b o14 [.int .i64 n13]).bind fun H15 =>
    some ⟨1, [.sc (.sl m5.1)], H15⟩)
   (cond (a0_0 == 4)
    ((ixA m5.1 0 1).bind fun o16 =>
     (putR r6.H m5.1.b o16 [.int .i64 0]).bind fun H17 =>
     some ⟨1, [.sc (.sl m5.1)], H17⟩)
    ((ixA m5.1 0 1).bind fun o18 =>
     (putR r6.H m5.1.b o18 [.int .i64 1]).bind fun H19 =>
     some ⟨1, [.sc (.sl m5.1)], H19⟩)))
  (none) := by kernel_rfl
/- loop.example/g03211/impl.RingOk -/
theorem e_iRingOk (C : Oracle) (a0_0 a0_1 a0_2 : Int) (H : AH) : (procM P T C (.fn F.iRingOk) [.agg [.int .i64 a0_0, .int .i64 a0_1, .int .i64 a0_2]] H).run =
  cond (a0_0 == 1)
  (cond (a0_1 == 0)
   (some ⟨1, [.sc (.bool (a0_2 == 0))], H⟩)
   (some ⟨1, [.sc (.bool false)], H⟩))
  (cond (a0_0 == 2)
   ((C (.fn F.iIsPrime) [.sc (.int .i64 a0_1)] H).bind fun r1 =>
    (oneP r1.vs).bind fun p2 =>
    p2.sc?.bind fun c3 =>
    (boolAt [c3] 0).bind fun b4 =>
    cond b4
    (some ⟨1, [.sc (.bool (a0_2 == 0))], r1.H⟩)
    (some ⟨1, [.sc (.bool false)], r1.H⟩))
   (((cond (a0_0 == 3)
   (some ⟨0, [.sc (.bool (a0_0 == 3))], H⟩)
   (cond (a0_0 == 4)
    (some ⟨0, [.sc (.bool (a0_0 == 4))], H⟩)
    (some ⟨0, [.sc (.bool (a0_0 == 5))], H⟩)) : Option Out)).bind fun r5 =>
    cond (Nat.beq r5.e 0)
    ((nthP r5.vs 0).bind fun p6 =>
     p6.sc?.bind fun c7 =>
     (boolAt [c7] 0).bind fun b8 =>
     cond b8
     (cond (decide (a0_1 ≥ 1))
      (cond (decide (a0_1 ≤ 1000000))
       (some ⟨1, [.sc (.bool (a0_2 == 0))], r5.H⟩)
       (some ⟨1, [.sc (.bool false)], r5.H⟩))
      (some ⟨1, [.sc (.bool false)], r5.H⟩))
     (cond (a0_0 == 6)
      (cond (a0_1 == 0)
       (cond (decide (a0_2 ≥ 1))
        (some ⟨1, [.sc (.bool (decide (a0_2 ≤ 20)))], r5.H⟩)
        (some ⟨1, [.sc (.bool false)], r5.H⟩))
       (some ⟨1, [.sc (.bool false)], r5.H⟩))
      (cond (a0_0 == 7)
       ((C (.fn F.iIsPrime) [.sc (.int .i64 a0_1)] r5.H).bind fun r9 =>
        (oneP r9.vs).bind fun p10 =>
        p10.sc?.bind fun c11 =>
        (boolAt [c11] 0).bind fun b12 =>
        cond b12
        (cond (decide (a0_2 ≥ 1))
         (some ⟨1, [.sc (.bool (decide (a0_2 ≤ 6)))], r9.H⟩)
         (some ⟨1, [.sc (.bool false)], r9.H⟩))
        (some ⟨1, [.sc (.bool false)], r9.H⟩))
       (cond (a0_0 == 8)
        ((C (.fn F.iIsPrime) [.sc (.int .i64 a0_1)] r5.H).bind fun r13 =>
         (oneP r13.vs).bind fun p14 =>
         p14.sc?.bind fun c15 =>
         (boolAt [c15] 0).bind fun b16 =>
         cond b16
         (cond (a0_1 != 2)
          (some ⟨1, [.sc (.bool (a0_2 == 0))], r13.H⟩)
          (some ⟨1, [.sc (.bool false)], r13.H⟩))
         (some ⟨1, [.sc (.bool false)], r13.H⟩))
        (some ⟨1, [.sc (.bool false)], r5.H⟩)))))
    (none))) := by kernel_rfl
/- loop.example/g03211/laws.szGateS -/
theorem e_wszGateS (C : Oracle) (a0 : Sl) (a1 : Int) (H : AH) : (procM P T C (.fn F.wszGateS) [.sc (.sl a0), .sc (.int .i64 a1)] H).run =
  cond (decide ((IntKind.wrap .i64 (a1 - (a0.n : Int))) < 0))
  (some ⟨1, [.sc (.int .i64 (-1))], H⟩)
  (some ⟨1, [.sc (.int .i64 (IntKind.wrap .i64 (a1 - (a0.n : Int))))], H⟩) := by kernel_rfl
/- loop.example/g03211/spec.CircuitOk -/
theorem e_sCircuitOk_0 (C : Oracle) (x27 : Sl) (x28 x29 y1_0 y1_1 : Int) (y1_2 : Sl) (H : AH) : (procM P T C (.loop F.sCircuitOk 0) [.sc (.sl x27), .sc (.int .i64 x28), .sc (.int .i64 x29), .agg [.int .i64 y1_0, .int .i64 y1_1, .sl y1_2]] H).run =
  cond (decide (x29 < x28))
  ((ixA x27 x29 3).bind fun o9 =>
   (rdB H x27.b).bind fun c10 =>
   (intAt .i64 c10 o9).bind fun n11 =>
   (intAt .i64 c10 (o9 + 1)).bind fun n12 =>
   (intAt .i64 c10 (o9 + 1 + 1)).bind fun n13 =>
   (C (.fn F.sl01In) [.sc (.int .i64 n11), .sc (.int .i64 1), .sc (.int .i64 9)] H).bind fun r14 =>
   (oneP r14.vs).bind fun p15 =>
   p15.sc?.bind fun c16 =>
   (boolAt [c16] 0).bind fun b17 =>
   cond (!b17)
   (some ⟨1, [.sc (.bool false)], r14.H⟩)
   ((C (.fn F.sl01In) [.sc (.int .i64 n12), .sc (.int .i64 0), .sc (.int .i64 (IntKind.wrap .i64 (y1_1 - 1)))] r14.H).bind fun r18 =>
    (oneP r18.vs).bind fun p19 =>
    p19.sc?.bind fun c20 =>
    (boolAt [c20] 0).bind fun b21 =>
    cond (!b21)
    (some ⟨1, [.sc (.bool false)], r18.H⟩)
    (cond (decide (n11 < 8))
     (cond (n13 != 0)
      (some ⟨1, [.sc (.bool false)], r18.H⟩)
      (cond (decide (n11 ≥ 8))
       ((C (.fn F.sl01In) [.sc (.int .i64 n13), .sc (.int .i64 0), .sc (.int .i64 (IntKind.wrap .i64 (y1_1 - 1)))] r18.H).bind fun r22 =>
        (oneP r22.vs).bind fun p23 =>
        p23.sc?.bind fun c24 =>
        (boolAt [c24] 0).bind fun b25 =>
        cond (!b25)
        (some ⟨1, [.sc (.bool false)], r22.H⟩)
        (cond (n12 == n13)
         (some ⟨1, [.sc (.bool false)], r22.H⟩)
         (C (.loop F.sCircuitOk 0) [.sc (.sl x27), .sc (.int .i64 x28), .sc (.int .i64 (IntKind.wrap .i64 (x29 + 1))), .agg [.int .i64 y1_0, .int .i64 y1_1, .sl y1_2]] r22.H)))
       (C (.loop F.sCircuitOk 0) [.sc (.sl x27), .sc (.int .i64 x28), .sc (.int .i64 (IntKind.wrap .i64 (x29 + 1))), .agg [.int .i64 y1_0, .int .i64 y1_1, .sl y1_2]] r18.H)))
     (cond (decide (n11 ≥ 8))
      ((C (.fn F.sl01In) [.sc (.int .i64 n13), .sc (.int .i64 0), .sc (.int .i64 (IntKind.wrap .i64 (y1_1 - 1)))] r18.H).bind fun r26 =>
       (oneP r26.vs).bind fun p27 =>
       p27.sc?.bind fun c28 =>
       (boolAt [c28] 0).bind fun b29 =>
       cond (!b29)
       (some ⟨1, [.sc (.bool false)], r26.H⟩)
       (cond (n12 == n13)
        (some ⟨1, [.sc (.bool false)], r26.H⟩)
        (C (.loop F.sCircuitOk 0) [.sc (.sl x27), .sc (.int .i64 x28), .sc (.int .i64 (IntKind.wrap .i64 (x29 + 1))), .agg [.int .i64 y1_0, .int .i64 y1_1, .sl y1_2]] r26.H)))
      (C (.loop F.sCircuitOk 0) [.sc (.sl x27), .sc (.int .i64 x28), .sc (.int .i64 (IntKind.wrap .i64 (x29 + 1))), .agg [.int .i64 y1_0, .int .i64 y1_1, .sl y1_2]] r18.H)))))
  (some ⟨2, [], H⟩) := by kernel_rfl
theorem e_sCircuitOk (C : Oracle) (a0_0 a0_1 : Int) (a0_2 : Sl) (H : AH) : (procM P T C (.fn F.sCircuitOk) [.agg [.int .i64 a0_0, .int .i64 a0_1, .sl a0_2]] H).run =
  (C (.fn F.sIsPrime) [.sc (.int .i64 a0_0)] H).bind fun r1 =>
  (oneP r1.vs).bind fun p2 =>
  p2.sc?.bind fun c3 =>
  (boolAt [c3] 0).bind fun b4 =>
  cond (!b4)
  (some ⟨1, [.sc (.bool false)], r1.H⟩)
  (cond (a0_0 == 2)
   (some ⟨1, [.sc (.bool false)], r1.H⟩)
   ((C (.fn F.sl01In) [.sc (.int .i64 a0_1), .sc (.int .i64 1), .sc (.int .i64 5)] r1.H).bind fun r5 =>
    (oneP r5.vs).bind fun p6 =>
    p6.sc?.bind fun c7 =>
    (boolAt [c7] 0).bind fun b8 =>
    cond (!b8)
    (some ⟨1, [.sc (.bool false)], r5.H⟩)
    (cond (decide ((a0_2.n : Int) > 24))
     (some ⟨1, [.sc (.bool false)], r5.H⟩)
     ((C (.loop F.sCircuitOk 0) [.sc (.sl a0_2), .sc (.int .i64 (a0_2.n : Int)), .sc (.int .i64 0), .agg [.int .i64 a0_0, .int .i64 a0_1, .sl a0_2]] r5.H).bind fun r30 =>
      cond (Nat.beq r30.e 1)
      ((nthP r30.vs 0).bind fun p31 =>
       p31.sc?.bind fun c32 =>
       (boolAt [c32] 0).bind fun b33 =>
       some ⟨1, [.sc (.bool b33)], r30.H⟩)
      (cond (Nat.beq r30.e 2)
       (some ⟨1, [.sc (.bool true)], r30.H⟩)
       (none)))))) := by kernel_rfl
/- loop.example/g03211/spec.l01In -/
theorem e_sl01In (C : Oracle) (a0 a1 a2 : Int) (H : AH) : (procM P T C (.fn F.sl01In) [.sc (.int .i64 a0), .sc (.int .i64 a1), .sc (.int .i64 a2)] H).run =
  cond (decide (a0 ≥ a1))
  (some ⟨1, [.sc (.bool (decide (a0 ≤ a2)))], H⟩)
  (some ⟨1, [.sc (.bool false)], H⟩) := by kernel_rfl
/- loop.example/g03211/spec.l40Lines -/
theorem e_sl40Lines (C : Oracle) (a0_0 a0_1 a0_2 : Int) (H : AH) : (procM P T C (.fn F.sl40Lines) [.agg [.int .i64 a0_0, .int .i64 a0_1, .int .i64 a0_2]] H).run =
  cond (decide (a0_0 ≥ 8))
  ((newB H 1 [.int .i64 a0_1, .int .i64 a0_2]).bind fun h1 =>
   some ⟨1, [.sc (.sl ⟨h1.1, 0, 2, 2, true⟩)], h1.2⟩)
  ((newB H 1 [.int .i64 a0_1]).bind fun h2 =>
   some ⟨1, [.sc (.sl ⟨h2.1, 0, 1, 1, true⟩)], h2.2⟩) := by kernel_rfl
/- loop.example/g03211/spec.l40Gate -/
theorem e_sl40Gate_0 (C : Oracle) (x14 x15 : Int) (y7_0 y7_1 y7_2 : Sl) (H : AH) : (procM P T C (.loop F.sl40Gate 0) [.sc (.int .i64 x14), .sc (.int .i64 x15), .agg [.sl y7_0, .sl y7_1, .sl y7_2]] H).run =
  cond (decide (x15 < x14))
  ((newB H 1 [.int .i64 2]).bind fun h5 =>
   (rng h5.2 h5.1 0 (1 * 1)).bind fun l6 =>
   (appB h5.2 1 8 y7_1 l6 1).bind fun m7 =>
   C (.loop F.sl40Gate 0) [.sc (.int .i64 x14), .sc (.int .i64 (IntKind.wrap .i64 (x15 + 1))), .agg [.sl y7_0, .sl m7.1, .sl y7_2]] m7.2)
  (some ⟨2, [.agg [.sl y7_0, .sl y7_1, .sl y7_2]], H⟩) := by kernel_rfl
theorem e_sl40Gate_1 (C : Oracle) (x25 : Sl) (x26 x27 : Int) (y7_0 y7_1 y7_2 : Sl) (H : AH) : (procM P T C (.loop F.sl40Gate 1) [.sc (.sl x25), .sc (.int .i64 x26), .sc (.int .i64 x27), .agg [.sl y7_0, .sl y7_1, .sl y7_2]] H).run =
  cond (decide (x27 < x26))
  ((ixA x25 x27 1).bind fun o17 =>
   (rdB H x25.b).bind fun c18 =>
   (slAt c18 o17).bind fun s19 =>
   (rng H s19.b s19.o (s19.n * 1)).bind fun l20 =>
   (appB H 1 8 y7_2 l20 s19.n).bind fun m21 =>
   C (.loop F.sl40Gate 1) [.sc (.sl x25), .sc (.int .i64 x26), .sc (.int .i64 (IntKind.wrap .i64 (x27 + 1))), .agg [.sl y7_0, .sl y7_1, .sl m21.1]] m21.2)
  (some ⟨4, [.agg [.sl y7_0, .sl y7_1, .sl y7_2]], H⟩) := by kernel_rfl
theorem e_sl40Gate (C : Oracle) (a0 a1 : Int) (a2 : Sl) (H : AH) : (procM P T C (.fn F.sl40Gate) [.sc (.int .i64 a0), .sc (.int .i64 a1), .sc (.sl a2)] H).run =
  (C (.fn F.sl05Ints) [.sc (.sl a2)] H).bind fun r1 =>
  (oneP r1.vs).bind fun p2 =>
  p2.sc?.bind fun c3 =>
  (slAt [c3] 0).bind fun s4 =>
  (C (.loop F.sl40Gate 0) [.sc (.int .i64 (a2.n : Int)), .sc (.int .i64 0), .agg [.sl s4, .sl ⟨0, 0, 0, 0, true⟩, .sl ⟨0, 0, 0, 0, true⟩]] r1.H).bind fun r8 =>
  cond (Nat.beq r8.e 2)
  (((nthP r8.vs 0).bind PV.agg?).bind fun l9 =>
   cond (decide (l9.length = 3))
   ((slAt l9 0).bind fun s10 =>
    (slAt l9 1).bind fun s11 =>
    (slAt l9 2).bind fun s12 =>
    (C (.fn F.sl40Matrix) [.sc (.int .i64 a0), .sc (.int .i64 a1)] r8.H).bind fun r13 =>
    (oneP r13.vs).bind fun p14 =>
    p14.sc?.bind fun c15 =>
    (slAt [c15] 0).bind fun s16 =>
    (C (.loop F.sl40Gate 1) [.sc (.sl s16), .sc (.int .i64 (s16.n : Int)), .sc (.int .i64 0), .agg [.sl s10, .sl s11, .sl s12]] r13.H).bind fun r22 =>
    cond (Nat.beq r22.e 4)
    (((nthP r22.vs 0).bind PV.agg?).bind fun l23 =>
     cond (decide (l23.length = 3))
     ((slAt l23 0).bind fun s24 =>
      (slAt l23 1).bind fun s25 =>
      (slAt l23 2).bind fun s26 =>
      some ⟨1, [.agg [.sl s24, .sl s25, .sl s26]], r22.H⟩)
     (none))
    (none))
   (none))
  (none) := by kernel_rfl
/- loop.example/g03211/spec.l05Ints -/
theorem e_sl05Ints (C : Oracle) (a0 : Sl) (H : AH) : (procM P T C (.fn F.sl05Ints) [.sc (.sl a0)] H).run =
  (newB H 1 []).bind fun h1 =>
  (rng h1.2 a0.b a0.o (a0.n * 1)).bind fun l2 =>
  (appB h1.2 1 8 ⟨h1.1, 0, 0, 0, true⟩ l2 a0.n).bind fun m3 =>
  some ⟨1, [.sc (.sl m3.1)], m3.2⟩ := by kernel_rfl
/- loop.example/g03211/laws.toGateS -/
theorem e_wtoGateS_0 (C : Oracle) (x0 x3 : Sl) (x4 : Int) (H : AH) : (procM P T C (.loop F.wtoGateS 0) [.sc (.sl x0), .sc (.sl x3), .sc (.int .i64 x4)] H).run =
  cond (decide (x4 < (x0.n : Int)))
  ((ixA x0 x4 3).bind fun o2 =>
   (rdB H x0.b).bind fun c3 =>
   (intAt .i64 c3 o2).bind fun n4 =>
   (intAt .i64 c3 (o2 + 1)).bind fun n5 =>
   (intAt .i64 c3 (o2 + 1 + 1)).bind fun n6 =>
   (C (.fn F.wtoGate) [.agg [.int .i64 n4, .int .i64 n5, .int .i64 n6]] H).bind fun r7 =>
   (oneP r7.vs).bind fun p8 =>
   p8.agg?.bind fun l9 =>
   cond (decide (l9.length = 3))
   ((intAt .i64 l9 0).bind fun n10 =>
    (intAt .i64 l9 1).bind fun n11 =>
    (intAt .i64 l9 2).bind fun n12 =>
    (ixA x3 x4 3).bind fun o13 =>
    (putR r7.H x3.b o13 [.int .i64 n10, .int .i64 n11, .int .i64 n12]).bind fun H14 =>
    C (.loop F.wtoGateS 0) [.sc (.sl x0), .sc (.sl x3), .sc (.int .i64 (IntKind.wrap .i64 (x4 + 1)))] H14)
   (none))
  (some ⟨2, [], H⟩) := by kernel_rfl
theorem e_wtoGateS (C : Oracle) (a0 : Sl) (H : AH) : (procM P T C (.fn F.wtoGateS) [.sc (.sl a0)] H).run =
  (mkB H 3 24 [.int .i64 0, .int .i64 0, .int .i64 0] (a0.n : Int) (a0.n : Int)).bind fun m1 =>
  (C (.loop F.wtoGateS 0) [.sc (.sl a0), .sc (.sl m1.1), .sc (.int .i64 0)] m1.2).bind fun r15 =>
  cond (Nat.beq r15.e 2)
  (some ⟨1, [.sc (.sl m1.1)], r15.H⟩)
  (none) := by kernel_rfl
/- loop.example/g03211/impl.CircuitOk -/
theorem e_iCircuitOk_0 (C : Oracle) (x27 : Sl) (x28 x29 y1_0 y1_1 : Int) (y1_2 : Sl) (H : AH) : (procM P T C (.loop F.iCircuitOk 0) [.sc (.sl x27), .sc (.int .i64 x28), .sc (.int .i64 x29), .agg [.int .i64 y1_0, .int .i64 y1_1, .sl y1_2]] H).run =
  cond (decide (x29 < x28))
  ((ixA x27 x29 3).bind fun o11 =>
   (rdB H x27.b).bind fun c12 =>
   (intAt .i64 c12 o11).bind fun n13 =>
   (intAt .i64 c12 (o11 + 1)).bind fun n14 =>
   (intAt .i64 c12 (o11 + 1 + 1)).bind fun n15 =>
   cond (decide (n13 < 1))
   (some ⟨1, [.sc (.bool false)], H⟩)
   (cond (decide (n13 > 9))
    (some ⟨1, [.sc (.bool false)], H⟩)
    (cond (decide (n14 < 0))
     (some ⟨1, [.sc (.bool false)], H⟩)
     (cond (decide (n14 ≥ y1_1))
      (some ⟨1, [.sc (.bool false)], H⟩)
      (cond (decide (n13 < 8))
       (cond (n15 != 0)
        (some ⟨1, [.sc (.bool false)], H⟩)
        (C (.loop F.iCircuitOk 0) [.sc (.sl x27), .sc (.int .i64 x28), .sc (.int .i64 (IntKind.wrap .i64 (x29 + 1))), .agg [.int .i64 y1_0, .int .i64 y1_1, .sl y1_2]] H))
       (cond (decide (n15 < 0))
        (some ⟨1, [.sc (.bool false)], H⟩)
        (cond (decide (n15 ≥ y1_1))
         (some ⟨1, [.sc (.bool false)], H⟩)
         (cond (n15 == n14)
          (some ⟨1, [.sc (.bool false)], H⟩)
          (C (.loop F.iCircuitOk 0) [.sc (.sl x27), .sc (.int .i64 x28), .sc (.int .i64 (IntKind.wrap .i64 (x29 + 1))), .agg [.int .i64 y1_0, .int .i64 y1_1, .sl y1_2]] H)))))))))
  (some ⟨2, [], H⟩) := by kernel_rfl
theorem e_iCircuitOk (C : Oracle) (a0_0 a0_1 : Int) (a0_2 : Sl) (H : AH) : (procM P T C (.fn F.iCircuitOk) [.agg [.int .i64 a0_0, .int .i64 a0_1, .sl a0_2]] H).run =
  (C (.fn F.iomegaRing) [.sc (.int .i64 a0_0)] H).bind fun r1 =>
  (oneP r1.vs).bind fun p2 =>
  p2.agg?.bind fun l3 =>
  cond (decide (l3.length = 3))
  ((intAt .i64 l3 0).bind fun n4 =>
   (intAt .i64 l3 1).bind fun n5 =>
   (intAt .i64 l3 2).bind fun n6 =>
   (C (.fn F.iRingOk) [.agg [.int .i64 n4, .int .i64 n5, .int .i64 n6]] r1.H).bind fun r7 =>
   (oneP r7.vs).bind fun p8 =>
   p8.sc?.bind fun c9 =>
   (boolAt [c9] 0).bind fun b10 =>
   cond (!b10)
   (some ⟨1, [.sc (.bool false)], r7.H⟩)
   (cond (decide (a0_1 < 1))
    (some ⟨1, [.sc (.bool false)], r7.H⟩)
    (cond (decide (a0_1 > 5))
     (some ⟨1, [.sc (.bool false)], r7.H⟩)
     (cond (decide ((a0_2.n : Int) > 24))
      (some ⟨1, [.sc (.bool false)], r7.H⟩)
      ((C (.loop F.iCircuitOk 0) [.sc (.sl a0_2), .sc (.int .i64 (a0_2.n : Int)), .sc (.int .i64 0), .agg [.int .i64 a0_0, .int .i64 a0_1, .sl a0_2]] r7.H).bind fun r16 =>
       cond (Nat.beq r16.e 1)
       ((nthP r16.vs 0).bind fun p17 =>
        p17.sc?.bind fun c18 =>
        (boolAt [c18] 0).bind fun b19 =>
        some ⟨1, [.sc (.bool b19)], r16.H⟩)
       (cond (Nat.beq r16.e 2)
        (some ⟨1, [.sc (.bool true)], r16.H⟩)
        (none)))))))
  (none) := by kernel_rfl
/- loop.example/g03211/impl.firstLabels -/
theorem e_ifirstLabels_0 (C : Oracle) (x3 : Sl) (x8 x9 : Int) (H : AH) : (procM P T C (.loop F.ifirstLabels 0) [.sc (.sl x3), .sc (.int .i64 x8), .sc (.int .i64 x9)] H).run =
  cond (decide (x9 < x8))
  ((ixA x3 x9 1).bind fun o2 =>
   (putR H x3.b o2 [.int .i64 x9]).bind fun H3 =>
   C (.loop F.ifirstLabels 0) [.sc (.sl x3), .sc (.int .i64 x8), .sc (.int .i64 (IntKind.wrap .i64 (x9 + 1)))] H3)
  (some ⟨2, [], H⟩) := by kernel_rfl
theorem e_ifirstLabels (C : Oracle) (a0 : Int) (H : AH) : (procM P T C (.fn F.ifirstLabels) [.sc (.int .i64 a0)] H).run =
  (mkB H 1 8 [.int .i64 0] a0 a0).bind fun m1 =>
  (C (.loop F.ifirstLabels 0) [.sc (.sl m1.1), .sc (.int .i64 (m1.1.n : Int)), .sc (.int .i64 0)] m1.2).bind fun r4 =>
  cond (Nat.beq r4.e 2)
  (some ⟨1, [.sc (.sl m1.1)], r4.H⟩)
  (none) := by kernel_rfl
/- loop.example/g03211/impl.gateQubits -/
theorem e_igateQubits (C : Oracle) (a0_0 a0_1 a0_2 : Int) (H : AH) : (procM P T C (.fn F.igateQubits) [.agg [.int .i64 a0_0, .int .i64 a0_1, .int .i64 a0_2]] H).run =
  cond (decide (a0_0 ≥ 8))
  ((newB H 1 [.int .i64 a0_1, .int .i64 a0_2]).bind fun h1 =>
   some ⟨1, [.sc (.sl ⟨h1.1, 0, 2, 2, true⟩)], h1.2⟩)
  ((newB H 1 [.int .i64 a0_1]).bind fun h2 =>
   some ⟨1, [.sc (.sl ⟨h2.1, 0, 1, 1, true⟩)], h2.2⟩) := by kernel_rfl
/- loop.example/g03211/impl.twos -/
theorem e_itwos_0 (C : Oracle) (x3 : Sl) (x8 x9 : Int) (H : AH) : (procM P T C (.loop F.itwos 0) [.sc (.sl x3), .sc (.int .i64 x8), .sc (.int .i64 x9)] H).run =
  cond (decide (x9 < x8))
  ((ixA x3 x9 1).bind fun o2 =>
   (putR H x3.b o2 [.int .i64 2]).bind fun H3 =>
   C (.loop F.itwos 0) [.sc (.sl x3), .sc (.int .i64 x8), .sc (.int .i64 (IntKind.wrap .i64 (x9 + 1)))] H3)
  (some ⟨2, [], H⟩) := by kernel_rfl
theorem e_itwos (C : Oracle) (a0 : Int) (H : AH) : (procM P T C (.fn F.itwos) [.sc (.int .i64 a0)] H).run =
  (mkB H 1 8 [.int .i64 0] a0 a0).bind fun m1 =>
  (C (.loop F.itwos 0) [.sc (.sl m1.1), .sc (.int .i64 (m1.1.n : Int)), .sc (.int .i64 0)] m1.2).bind fun r4 =>
  cond (Nat.beq r4.e 2)
  (some ⟨1, [.sc (.sl m1.1)], r4.H⟩)
  (none) := by kernel_rfl
/- loop.example/g03211/laws.eqGateS -/
theorem e_weqGateS_0 (C : Oracle) (x0 x1 : Sl) (x5 : Int) (H : AH) : (procM P T C (.loop F.weqGateS 0) [.sc (.sl x0), .sc (.sl x1), .sc (.int .i64 x5)] H).run =
  cond (decide (x5 < (x0.n : Int)))
  ((ixA x0 x5 3).bind fun o1 =>
   (rdB H x0.b).bind fun c2 =>
   (intAt .i64 c2 o1).bind fun n3 =>
   (intAt .i64 c2 (o1 + 1)).bind fun n4 =>
   (intAt .i64 c2 (o1 + 1 + 1)).bind fun n5 =>
   (ixA x1 x5 3).bind fun o6 =>
   (rdB H x1.b).bind fun c7 =>
   (intAt .i64 c7 o6).bind fun n8 =>
   (intAt .i64 c7 (o6 + 1)).bind fun n9 =>
   (intAt .i64 c7 (o6 + 1 + 1)).bind fun n10 =>
   (C (.fn F.weqGate) [.agg [.int .i64 n3, .int .i64 n4, .int .i64 n5], .agg [.int .i64 n8, .int .i64 n9, .int .i64 n10]] H).bind fun r11 =>
   (oneP r11.vs).bind fun p12 =>
   p12.sc?.bind fun c13 =>
   (boolAt [c13] 0).bind fun b14 =>
   cond (!b14)
   (some ⟨1, [.sc (.bool false)], r11.H⟩)
   (C (.loop F.weqGateS 0) [.sc (.sl x0), .sc (.sl x1), .sc (.int .i64 (IntKind.wrap .i64 (x5 + 1)))] r11.H))
  (some ⟨2, [], H⟩) := by kernel_rfl
theorem e_weqGateS (C : Oracle) (a0 a1 : Sl) (H : AH) : (procM P T C (.fn F.weqGateS) [.sc (.sl a0), .sc (.sl a1)] H).run =
  cond ((a0.n : Int) != (a1.n : Int))
  (some ⟨1, [.sc (.bool false)], H⟩)
  ((C (.loop F.weqGateS 0) [.sc (.sl a0), .sc (.sl a1), .sc (.int .i64 0)] H).bind fun r15 =>
   cond (Nat.beq r15.e 1)
   ((nthP r15.vs 0).bind fun p16 =>
    p16.sc?.bind fun c17 =>
    (boolAt [c17] 0).bind fun b18 =>
    some ⟨1, [.sc (.bool b18)], r15.H⟩)
   (cond (Nat.beq r15.e 2)
    (some ⟨1, [.sc (.bool true)], r15.H⟩)
    (none))) := by kernel_rfl
/- loop.example/g03211/laws.markGateS -/
theorem e_wmarkGateS_0 (C : Oracle) (x0 : Sl) (x1 x5 : Int) (H : AH) : (procM P T C (.loop F.wmarkGateS 0) [.sc (.sl x0), .sc (.int .i64 x1), .sc (.int .i64 x5)] H).run =
  cond (decide (x5 < (x0.n : Int)))
  ((ixA x0 x5 3).bind fun o1 =>
   (putR H x0.b (o1 + 0) [.int .i64 x1]).bind fun H2 =>
   (ixA x0 x5 3).bind fun o3 =>
   (putR H2 x0.b (o3 + 1) [.int .i64 (IntKind.wrap .i64 (x1 + 1))]).bind fun H4 =>
   (ixA x0 x5 3).bind fun o5 =>
   (putR H4 x0.b (o5 + 2) [.int .i64 (IntKind.wrap .i64 ((IntKind.wrap .i64 (x1 + 1)) + 1))]).bind fun H6 =>
   C (.loop F.wmarkGateS 0) [.sc (.sl x0), .sc (.int .i64 (IntKind.wrap .i64 ((IntKind.wrap .i64 ((IntKind.wrap .i64 (x1 + 1)) + 1)) + 1))), .sc (.int .i64 (IntKind.wrap .i64 (x5 + 1)))] H6)
  (some ⟨2, [.sc (.int .i64 x1)], H⟩) := by kernel_rfl
theorem e_wmarkGateS (C : Oracle) (a0 : Sl) (a1 : Int) (H : AH) : (procM P T C (.fn F.wmarkGateS) [.sc (.sl a0), .sc (.int .i64 a1)] H).run =
  (C (.loop F.wmarkGateS 0) [.sc (.sl a0), .sc (.int .i64 a1), .sc (.int .i64 0)] H).bind fun r7 =>
  cond (Nat.beq r7.e 2)
  ((nthP r7.vs 0).bind fun p8 =>
   p8.sc?.bind fun c9 =>
   (intAt .i64 [c9] 0).bind fun n10 =>
   some ⟨1, [.sc (.int .i64 n10)], r7.H⟩)
  (none) := by kernel_rfl
/- loop.example/g03211/spec.IsPrime -/
theorem e_sIsPrime_0 (C : Oracle) (x0 x3 : Int) (H : AH) : (procM P T C (.loop F.sIsPrime 0) [.sc (.int .i64 x0), .sc (.int .i64 x3)] H).run =
  cond (decide ((IntKind.wrap .i64 (x3 * x3)) ≤ x0))
  (cond (decide (x0 ≤ 1000003))
   (cond (x3 == 0)
    (none)
    (cond ((Int.tmod x0 x3) == 0)
     (some ⟨1, [.sc (.bool false)], H⟩)
     (C (.loop F.sIsPrime 0) [.sc (.int .i64 x0), .sc (.int .i64 (IntKind.wrap .i64 (x3 + 1)))] H)))
   (some ⟨2, [], H⟩))
  (some ⟨2, [], H⟩) := by kernel_rfl
theorem e_sIsPrime (C : Oracle) (a0 : Int) (H : AH) : (procM P T C (.fn F.sIsPrime) [.sc (.int .i64 a0)] H).run =
  (C (.loop F.sIsPrime 0) [.sc (.int .i64 a0), .sc (.int .i64 2)] H).bind fun r1 =>
  cond (Nat.beq r1.e 1)
  ((nthP r1.vs 0).bind fun p2 =>
   p2.sc?.bind fun c3 =>
   (boolAt [c3] 0).bind fun b4 =>
   some ⟨1, [.sc (.bool b4)], r1.H⟩)
  (cond (Nat.beq r1.e 2)
   ((C (.fn F.sl01In) [.sc (.int .i64 a0), .sc (.int .i64 2), .sc (.int .i64 1000003)] r1.H).bind fun r5 =>
    (oneP r5.vs).bind fun p6 =>
    p6.sc?.bind fun c7 =>
    (boolAt [c7] 0).bind fun b8 =>
    some ⟨1, [.sc (.bool b8)], r5.H⟩)
   (none)) := by kernel_rfl
/- loop.example/g03211/impl.IsPrime -/
theorem e_iIsPrime_0 (C : Oracle) (x0 x3 : Int) (H : AH) : (procM P T C (.loop F.iIsPrime 0) [.sc (.int .i64 x0), .sc (.int .i64 x3)] H).run =
  cond (decide ((IntKind.wrap .i64 (x3 * x3)) ≤ x0))
  (cond (x3 == 0)
   (none)
   (cond ((Int.tmod x0 x3) == 0)
    (some ⟨1, [.sc (.bool false)], H⟩)
    (C (.loop F.iIsPrime 0) [.sc (.int .i64 x0), .sc (.int .i64 (IntKind.wrap .i64 (x3 + 1)))] H)))
  (some ⟨2, [], H⟩) := by kernel_rfl
theorem e_iIsPrime (C : Oracle) (a0 : Int) (H : AH) : (procM P T C (.fn F.iIsPrime) [.sc (.int .i64 a0)] H).run =
  cond (decide (a0 < 2))
  (some ⟨1, [.sc (.bool false)], H⟩)
  (cond (decide (a0 > 1000003))
   (some ⟨1, [.sc (.bool false)], H⟩)
   ((C (.loop F.iIsPrime 0) [.sc (.int .i64 a0), .sc (.int .i64 2)] H).bind fun r1 =>
    cond (Nat.beq r1.e 1)
    ((nthP r1.vs 0).bind fun p2 =>
     p2.sc?.bind fun c3 =>
     (boolAt [c3] 0).bind fun b4 =>
     some ⟨1, [.sc (.bool b4)], r1.H⟩)
    (cond (Nat.beq r1.e 2)
     (some ⟨1, [.sc (.bool true)], r1.H⟩)
     (none)))) := by kernel_rfl
/- loop.example/g03211/spec.l10Rest -/
theorem e_sl10Rest_0 (C : Oracle) (x1 x5 x10 : Sl) (x11 x12 : Int) (H : AH) : (procM P T C (.loop F.sl10Rest 0) [.sc (.sl x1), .sc (.sl x5), .sc (.sl x10), .sc (.int .i64 x11), .sc (.int .i64 x12)] H).run =
  cond (decide (x12 < x11))
  ((ixA x10 x12 1).bind fun o2 =>
   (rdB H x10.b).bind fun c3 =>
   (intAt .i64 c3 o2).bind fun n4 =>
   (C (.fn F.sl05Find) [.sc (.sl x1), .sc (.int .i64 n4)] H).bind fun r5 =>
   (oneP r5.vs).bind fun p6 =>
   p6.sc?.bind fun c7 =>
   (intAt .i64 [c7] 0).bind fun n8 =>
   cond (decide (n8 < 0))
   ((newB r5.H 1 [.int .i64 n4]).bind fun h9 =>
    (rng h9.2 h9.1 0 (1 * 1)).bind fun l10 =>
    (appB h9.2 1 8 x5 l10 1).bind fun m11 =>
    C (.loop F.sl10Rest 0) [.sc (.sl x1), .sc (.sl m11.1), .sc (.sl x10), .sc (.int .i64 x11), .sc (.int .i64 (IntKind.wrap .i64 (x12 + 1)))] m11.2)
   (C (.loop F.sl10Rest 0) [.sc (.sl x1), .sc (.sl x5), .sc (.sl x10), .sc (.int .i64 x11), .sc (.int .i64 (IntKind.wrap .i64 (x12 + 1)))] r5.H))
  (some ⟨2, [.sc (.sl x5)], H⟩) := by kernel_rfl
theorem e_sl10Rest (C : Oracle) (a0_0 a0_1 a0_2 a1 : Sl) (H : AH) : (procM P T C (.fn F.sl10Rest) [.agg [.sl a0_0, .sl a0_1, .sl a0_2], .sc (.sl a1)] H).run =
  (newB H 1 []).bind fun h1 =>
  (C (.loop F.sl10Rest 0) [.sc (.sl a1), .sc (.sl ⟨h1.1, 0, 0, 0, true⟩), .sc (.sl a0_0), .sc (.int .i64 (a0_0.n : Int)), .sc (.int .i64 0)] h1.2).bind fun r12 =>
  cond (Nat.beq r12.e 2)
  ((nthP r12.vs 0).bind fun p13 =>
   p13.sc?.bind fun c14 =>
   (slAt [c14] 0).bind fun s15 =>
   some ⟨1, [.sc (.sl s15)], r12.H⟩)
  (none) := by kernel_rfl
/- loop.example/g03211/spec.l08Pair -/
theorem e_sl08Pair_0 (C : Oracle) (x10 x13 x14 x15 x16 : Sl) (x17 y4_0 y4_1 y4_2 : Int) (y5_0 y5_1 y5_2 y6_0 y6_1 y6_2 y12_0 y12_1 y12_2 : Sl) (H : AH) : (procM P T C (.loop F.sl08Pair 0) [.sc (.sl x10), .sc (.sl x13), .sc (.sl x14), .sc (.sl x15), .sc (.sl x16), .sc (.int .i64 x17), .agg [.int .i64 y4_0, .int .i64 y4_1, .int .i64 y4_2], .agg [.sl y5_0, .sl y5_1, .sl y5_2], .agg [.sl y6_0, .sl y6_1, .sl y6_2], .agg [.sl y12_0, .sl y12_1, .sl y12_2]] H).run =
  cond (decide (x17 > 0))
  ((C (.loop F.sl08Pair 1) [.sc (.sl x13), .sc (.sl x14), .sc (.sl x15), .sc (.int .i64 0), .sc (.int .i64 0), .sc (.int .i64 0), .sc (.sl x16), .sc (.int .i64 (x16.n : Int)), .sc (.int .i64 0)] H).bind fun r52 =>
   cond (Nat.beq r52.e 4)
   ((nthP r52.vs 0).bind fun p53 =>
    p53.sc?.bind fun c54 =>
    (intAt .i64 [c54] 0).bind fun n55 =>
    (nthP r52.vs 1).bind fun p56 =>
    p56.sc?.bind fun c57 =>
    (intAt .i64 [c57] 0).bind fun n58 =>
    (nthP r52.vs 2).bind fun p59 =>
    p59.sc?.bind fun c60 =>
    (intAt .i64 [c60] 0).bind fun n61 =>
    (C (.fn F.sl05Get) [.agg [.int .i64 y4_0, .int .i64 y4_1, .int .i64 y4_2], .agg [.sl y12_0, .sl y12_1, .sl y12_2], .sc (.int .i64 n61)] r52.H).bind fun r62 =>
    (oneP r62.vs).bind fun p63 =>
    p63.sc?.bind fun c64 =>
    (slAt [c64] 0).bind fun s65 =>
    (C (.fn F.sl05Get) [.agg [.int .i64 y4_0, .int .i64 y4_1, .int .i64 y4_2], .agg [.sl y5_0, .sl y5_1, .sl y5_2], .sc (.int .i64 n55)] r62.H).bind fun r66 =>
    (oneP r66.vs).bind fun p67 =>
    p67.sc?.bind fun c68 =>
    (slAt [c68] 0).bind fun s69 =>
    (C (.fn F.sl05Get) [.agg [.int .i64 y4_0, .int .i64 y4_1, .int .i64 y4_2], .agg [.sl y6_0, .sl y6_1, .sl y6_2], .sc (.int .i64 n58)] r66.H).bind fun r70 =>
    (oneP r70.vs).bind fun p71 =>
    p71.sc?.bind fun c72 =>
    (slAt [c72] 0).bind fun s73 =>
    (C (.fn F.sl02Mul) [.agg [.int .i64 y4_0, .int .i64 y4_1, .int .i64 y4_2], .sc (.sl s69), .sc (.sl s73)] r70.H).bind fun r74 =>
    (oneP r74.vs).bind fun p75 =>
    p75.sc?.bind fun c76 =>
    (slAt [c76] 0).bind fun s77 =>
    (C (.fn F.sl02Add) [.agg [.int .i64 y4_0, .int .i64 y4_1, .int .i64 y4_2], .sc (.sl s65), .sc (.sl s77)] r74.H).bind fun r78 =>
    (oneP r78.vs).bind fun p79 =>
    p79.sc?.bind fun c80 =>
    (slAt [c80] 0).bind fun s81 =>
    (C (.fn F.sl05Put) [.agg [.int .i64 y4_0, .int .i64 y4_1, .int .i64 y4_2], .agg [.sl y12_0, .sl y12_1, .sl y12_2], .sc (.int .i64 n61), .sc (.sl s81)] r78.H).bind fun r82 =>
    (C (.loop F.sl08Pair 2) [.sc (.sl x10), .sc (.sl x16), .sc (.int .i64 (IntKind.wrap .i64 ((x16.n : Int) - 1)))] r82.H).bind fun r96 =>
    cond (Nat.beq r96.e 6)
    (C (.loop F.sl08Pair 0) [.sc (.sl x10), .sc (.sl x13), .sc (.sl x14), .sc (.sl x15), .sc (.sl x16), .sc (.int .i64 (IntKind.wrap .i64 (x17 - 1))), .agg [.int .i64 y4_0, .int .i64 y4_1, .int .i64 y4_2], .agg [.sl y5_0, .sl y5_1, .sl y5_2], .agg [.sl y6_0, .sl y6_1, .sl y6_2], .agg [.sl y12_0, .sl y12_1, .sl y12_2]] r96.H)
    (none))
   (none))
  (some ⟨2, [], H⟩) := by kernel_rfl
theorem e_sl08Pair_1 (C : Oracle) (x13 x14 x15 : Sl) (x18 x19 x20 : Int) (x59 : Sl) (x60 x61 : Int) (H : AH) : (procM P T C (.loop F.sl08Pair 1) [.sc (.sl x13), .sc (.sl x14), .sc (.sl x15), .sc (.int .i64 x18), .sc (.int .i64 x19), .sc (.int .i64 x20), .sc (.sl x59), .sc (.int .i64 x60), .sc (.int .i64 x61)] H).run =
  cond (decide (x61 < x60))
  ((ixA x59 x61 1).bind fun o40 =>
   (rdB H x59.b).bind fun c41 =>
   (intAt .i64 c41 o40).bind fun n42 =>
   (ixA x13 x61 1).bind fun o43 =>
   (rdB H x13.b).bind fun c44 =>
   (intAt .i64 c44 o43).bind fun n45 =>
   (ixA x14 x61 1).bind fun o46 =>
   (rdB H x14.b).bind fun c47 =>
   (intAt .i64 c47 o46).bind fun n48 =>
   (ixA x15 x61 1).bind fun o49 =>
   (rdB H x15.b).bind fun c50 =>
   (intAt .i64 c50 o49).bind fun n51 =>
   C (.loop F.sl08Pair 1) [.sc (.sl x13), .sc (.sl x14), .sc (.sl x15), .sc (.int .i64 (IntKind.wrap .i64 (x18 + (IntKind.wrap .i64 (n42 * n45))))), .sc (.int .i64 (IntKind.wrap .i64 (x19 + (IntKind.wrap .i64 (n42 * n48))))), .sc (.int .i64 (IntKind.wrap .i64 (x20 + (IntKind.wrap .i64 (n42 * n51))))), .sc (.sl x59), .sc (.int .i64 x60), .sc (.int .i64 (IntKind.wrap .i64 (x61 + 1)))] H)
  (some ⟨4, [.sc (.int .i64 x18), .sc (.int .i64 x19), .sc (.int .i64 x20)], H⟩) := by kernel_rfl
theorem e_sl08Pair_2 (C : Oracle) (x10 x16 : Sl) (x23 : Int) (H : AH) : (procM P T C (.loop F.sl08Pair 2) [.sc (.sl x10), .sc (.sl x16), .sc (.int .i64 x23)] H).run =
  cond (decide (x23 ≥ 0))
  ((ixA x16 x23 1).bind fun o83 =>
   (rdB H x16.b).bind fun c84 =>
   (intAt .i64 c84 o83).bind fun n85 =>
   (ixA x16 x23 1).bind fun o86 =>
   (putR H x16.b o86 [.int .i64 (IntKind.wrap .i64 (n85 + 1))]).bind fun H87 =>
   (ixA x16 x23 1).bind fun o88 =>
   (rdB H87 x16.b).bind fun c89 =>
   (intAt .i64 c89 o88).bind fun n90 =>
   (ixA x10 x23 1).bind fun o91 =>
   (rdB H87 x10.b).bind fun c92 =>
   (intAt .i64 c92 o91).bind fun n93 =>
   cond (decide (n90 < n93))
   (some ⟨6, [], H87⟩)
   ((ixA x16 x23 1).bind fun o94 =>
    (putR H87 x16.b o94 [.int .i64 0]).bind fun H95 =>
    C (.loop F.sl08Pair 2) [.sc (.sl x10), .sc (.sl x16), .sc (.int .i64 (IntKind.wrap .i64 (x23 - 1)))] H95))
  (some ⟨6, [], H⟩) := by kernel_rfl
theorem e_sl08Pair (C : Oracle) (a0_0 a0_1 a0_2 : Int) (a1_0 a1_1 a1_2 a2_0 a2_1 a2_2 a3 : Sl) (H : AH) : (procM P T C (.fn F.sl08Pair) [.agg [.int .i64 a0_0, .int .i64 a0_1, .int .i64 a0_2], .agg [.sl a1_0, .sl a1_1, .sl a1_2], .agg [.sl a2_0, .sl a2_1, .sl a2_2], .sc (.sl a3)] H).run =
  (C (.fn F.sl08Join) [.agg [.sl a1_0, .sl a1_1, .sl a1_2], .agg [.sl a2_0, .sl a2_1, .sl a2_2]] H).bind fun r1 =>
  (lenP r1.vs 3).bind fun _ =>
  (nthP r1.vs 0).bind fun p2 =>
  p2.sc?.bind fun c3 =>
  (slAt [c3] 0).bind fun s4 =>
  (nthP r1.vs 1).bind fun p5 =>
  p5.sc?.bind fun c6 =>
  (slAt [c6] 0).bind fun s7 =>
  (nthP r1.vs 2).bind fun p8 =>
  p8.sc?.bind fun c9 =>
  (boolAt [c9] 0).bind fun b10 =>
  (C (.fn F.sl08Keep) [.sc (.sl s4), .sc (.sl s7), .sc (.sl a3)] r1.H).bind fun r11 =>
  (oneP r11.vs).bind fun p12 =>
  p12.agg?.bind fun l13 =>
  cond (decide (l13.length = 3))
  ((slAt l13 0).bind fun s14 =>
   (slAt l13 1).bind fun s15 =>
   (slAt l13 2).bind fun s16 =>
   (C (.fn F.sl05Zero) [.agg [.int .i64 a0_0, .int .i64 a0_1, .int .i64 a0_2], .sc (.sl s14), .sc (.sl s15)] r11.H).bind fun r17 =>
   (oneP r17.vs).bind fun p18 =>
   p18.agg?.bind fun l19 =>
   cond (decide (l19.length = 3))
   ((slAt l19 0).bind fun s20 =>
    (slAt l19 1).bind fun s21 =>
    (slAt l19 2).bind fun s22 =>
    (C (.fn F.sl08Steps) [.agg [.sl a1_0, .sl a1_1, .sl a1_2], .sc (.sl s4)] r17.H).bind fun r23 =>
    (oneP r23.vs).bind fun p24 =>
    p24.sc?.bind fun c25 =>
    (slAt [c25] 0).bind fun s26 =>
    (C (.fn F.sl08Steps) [.agg [.sl a2_0, .sl a2_1, .sl a2_2], .sc (.sl s4)] r23.H).bind fun r27 =>
    (oneP r27.vs).bind fun p28 =>
    p28.sc?.bind fun c29 =>
    (slAt [c29] 0).bind fun s30 =>
    (C (.fn F.sl08Steps) [.agg [.sl s20, .sl s21, .sl s22], .sc (.sl s4)] r27.H).bind fun r31 =>
    (oneP r31.vs).bind fun p32 =>
    p32.sc?.bind fun c33 =>
    (slAt [c33] 0).bind fun s34 =>
    (mkB r31.H 1 8 [.int .i64 0] (s4.n : Int) (s4.n : Int)).bind fun m35 =>
    (C (.fn F.sl05Product) [.sc (.sl s7), .sc (.int .i64 65536)] m35.2).bind fun r36 =>
    (oneP r36.vs).bind fun p37 =>
    p37.sc?.bind fun c38 =>
    (intAt .i64 [c38] 0).bind fun n39 =>
    (C (.loop F.sl08Pair 0) [.sc (.sl s7), .sc (.sl s26), .sc (.sl s30), .sc (.sl s34), .sc (.sl m35.1), .sc (.int .i64 n39), .agg [.int .i64 a0_0, .int .i64 a0_1, .int .i64 a0_2], .agg [.sl a1_0, .sl a1_1, .sl a1_2], .agg [.sl a2_0, .sl a2_1, .sl a2_2], .agg [.sl s20, .sl s21, .sl s22]] r36.H).bind fun r97 =>
    cond (Nat.beq r97.e 2)
    (some ⟨1, [.agg [.sl s20, .sl s21, .sl s22]], r97.H⟩)
    (none))
   (none))
  (none) := by kernel_rfl
end Go.Abs
