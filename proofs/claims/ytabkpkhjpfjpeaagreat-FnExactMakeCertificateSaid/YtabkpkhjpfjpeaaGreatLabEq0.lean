/- Part of the proof of FnExactMakeCertificate: that for every input the law answers true and leaves what it reads as it was. Conditions: none beyond the given statement. -/
import Derived.Test.YtabkpkhjpfjpeaaGreatLabTab
import Derived.KernelRfl
set_option linter.all false
/- The equations of the functions: what the abstract interpreter makes of their code. -/
namespace Go.Abs
set_option maxRecDepth 100000
set_option linter.unusedVariables false
/- loop.example/g03211/laws.FnExactMakeCertificate -/
theorem e_wFnExactMakeCertificate (C : Oracle) (a0_0 : Sl) (H : AH) : (procM P T C (.fn F.wFnExactMakeCertificate) [.agg [.sl a0_0]] H).run =
  (C (.fn F.wszIntNetwork) [.agg [.sl a0_0], .sc (.int .i64 1048576)] H).bind fun r1 =>
  (oneP r1.vs).bind fun p2 =>
  p2.sc?.bind fun c3 =>
  (intAt .i64 [c3] 0).bind fun n4 =>
  cond (decide (n4 < 0))
  (some ⟨1, [.sc (.bool true)], r1.H⟩)
  ((C (.fn F.wtoIntNetwork) [.agg [.sl a0_0]] r1.H).bind fun r5 =>
   (oneP r5.vs).bind fun p6 =>
   p6.agg?.bind fun l7 =>
   cond (decide (l7.length = 1))
   ((slAt l7 0).bind fun s8 =>
    (C (.fn F.sMakeCertificate) [.agg [.sl s8]] r5.H).bind fun r9 =>
    (lenP r9.vs 2).bind fun _ =>
    (nthP r9.vs 0).bind fun p10 =>
    p10.agg?.bind fun l11 =>
    cond (decide (l11.length = 2))
    ((slAt l11 0).bind fun s12 =>
     (slAt l11 1).bind fun s13 =>
     (nthP r9.vs 1).bind fun p14 =>
     p14.sc?.bind fun c15 =>
     (boolAt [c15] 0).bind fun b16 =>
     (C (.fn F.wtoIntNetwork) [.agg [.sl a0_0]] r9.H).bind fun r17 =>
     (oneP r17.vs).bind fun p18 =>
     p18.agg?.bind fun l19 =>
     cond (decide (l19.length = 1))
     ((slAt l19 0).bind fun s20 =>
      (C (.fn F.iMakeCertificate) [.agg [.sl s20]] r17.H).bind fun r21 =>
      (lenP r21.vs 2).bind fun _ =>
      (nthP r21.vs 0).bind fun p22 =>
      p22.agg?.bind fun l23 =>
      cond (decide (l23.length = 2))
      ((slAt l23 0).bind fun s24 =>
       (slAt l23 1).bind fun s25 =>
       (nthP r21.vs 1).bind fun p26 =>
       p26.sc?.bind fun c27 =>
       (boolAt [c27] 0).bind fun b28 =>
       (C (.fn F.weqCertificate) [.agg [.sl s24, .sl s25], .agg [.sl s12, .sl s13]] r21.H).bind fun r29 =>
       (oneP r29.vs).bind fun p30 =>
       p30.sc?.bind fun c31 =>
       (boolAt [c31] 0).bind fun b32 =>
       cond (!b32)
       (some ⟨1, [.sc (.bool false)], r29.H⟩)
       (cond (b28 != b16)
        (some ⟨1, [.sc (.bool false)], r29.H⟩)
        ((C (.fn F.wtoIntNetwork) [.agg [.sl a0_0]] r29.H).bind fun r33 =>
         (oneP r33.vs).bind fun p34 =>
         p34.agg?.bind fun l35 =>
         cond (decide (l35.length = 1))
         ((slAt l35 0).bind fun s36 =>
          (C (.fn F.weqIntNetwork) [.agg [.sl s20], .agg [.sl s36]] r33.H).bind fun r37 =>
          (oneP r37.vs).bind fun p38 =>
          p38.sc?.bind fun c39 =>
          (boolAt [c39] 0).bind fun b40 =>
          cond (!b40)
          (some ⟨1, [.sc (.bool false)], r37.H⟩)
          ((C (.fn F.wmarkIntNetwork) [.agg [.sl s20], .sc (.int .i64 1)] r37.H).bind fun r41 =>
           (oneP r41.vs).bind fun p42 =>
           p42.sc?.bind fun c43 =>
           (intAt .i64 [c43] 0).bind fun n44 =>
           cond (decide (n44 < 0))
           (some ⟨1, [.sc (.bool false)], r41.H⟩)
           ((C (.fn F.weqCertificate) [.agg [.sl s24, .sl s25], .agg [.sl s12, .sl s13]] r41.H).bind fun r45 =>
            (oneP r45.vs).bind fun p46 =>
            p46.sc?.bind fun c47 =>
            (boolAt [c47] 0).bind fun b48 =>
            cond (!b48)
            (some ⟨1, [.sc (.bool false)], r45.H⟩)
            (cond (b28 != b16)
             (some ⟨1, [.sc (.bool false)], r45.H⟩)
             ((C (.fn F.wmarkCertificate) [.agg [.sl s24, .sl s25], .sc (.int .i64 1)] r45.H).bind fun r49 =>
              (oneP r49.vs).bind fun p50 =>
              p50.sc?.bind fun c51 =>
              (intAt .i64 [c51] 0).bind fun n52 =>
              (C (.fn F.wheldCertificate) [.agg [.sl s24, .sl s25], .sc (.int .i64 1)] r49.H).bind fun r53 =>
              (oneP r53.vs).bind fun p54 =>
              p54.sc?.bind fun c55 =>
              (intAt .i64 [c55] 0).bind fun n56 =>
              cond (decide (n56 < 0))
              (some ⟨1, [.sc (.bool false)], r53.H⟩)
              (cond (n56 != n52)
               (some ⟨1, [.sc (.bool false)], r53.H⟩)
               ((C (.fn F.wtoIntNetwork) [.agg [.sl a0_0]] r53.H).bind fun r57 =>
                (oneP r57.vs).bind fun p58 =>
                p58.agg?.bind fun l59 =>
                cond (decide (l59.length = 1))
                ((slAt l59 0).bind fun s60 =>
                 (C (.fn F.iMakeCertificate) [.agg [.sl s60]] r57.H).bind fun r61 =>
                 (lenP r61.vs 2).bind fun _ =>
                 (nthP r61.vs 0).bind fun p62 =>
                 p62.agg?.bind fun l63 =>
                 cond (decide (l63.length = 2))
                 ((slAt l63 0).bind fun s64 =>
                  (slAt l63 1).bind fun s65 =>
                  (nthP r61.vs 1).bind fun p66 =>
                  p66.sc?.bind fun c67 =>
                  (boolAt [c67] 0).bind fun b68 =>
                  (C (.fn F.weqCertificate) [.agg [.sl s64, .sl s65], .agg [.sl s12, .sl s13]] r61.H).bind fun r69 =>
                  (oneP r69.vs).bind fun p70 =>
                  p70.sc?.bind fun c71 =>
                  (boolAt [c71] 0).bind fun b72 =>
                  cond (!b72)
                  (some ⟨1, [.sc (.bool false)], r69.H⟩)
                  (cond (b68 != b16)
                   (some ⟨1, [.sc (.bool false)], r69.H⟩)
                   ((C (.fn F.wheldCertificate) [.agg [.sl s24, .sl s25], .sc (.int .i64 1)] r69.H).bind fun r73 =>
                    (oneP r73.vs).bind fun p74 =>
                    p74.sc?.bind fun c75 =>
                    (intAt .i64 [c75] 0).bind fun n76 =>
                    cond (decide (n76 < 0))
                    (some ⟨1, [.sc (.bool false)], r73.H⟩)
                    (cond (n76 != n52)
                     (some ⟨1, [.sc (.bool false)], r73.H⟩)
                     (some ⟨1, [.sc (.bool true)], r73.H⟩)))))
                 (none))
                (none))))))))
         (none))))
      (none))
     (none))
    (none))
   (none)) := by kernel_rfl
/- loop.example/g03211/laws.toIntS -/
theorem e_wtoIntS_0 (C : Oracle) (x0 x3 : Sl) (x4 : Int) (H : AH) : (procM P T C (.loop F.wtoIntS 0) [.sc (.sl x0), .sc (.sl x3), .sc (.int .i64 x4)] H).run =
  cond (decide (x4 < (x0.n : Int)))
  ((ixA x0 x4 1).bind fun o2 =>
   (rdB H x0.b).bind fun c3 =>
   (intAt .i64 c3 o2).bind fun n4 =>
   (ixA x3 x4 1).bind fun o5 =>
   (putR H x3.b o5 [.int .i64 n4]).bind fun H6 =>
   C (.loop F.wtoIntS 0) [.sc (.sl x0), .sc (.sl x3), .sc (.int .i64 (IntKind.wrap .i64 (x4 + 1)))] H6)
  (some ⟨2, [], H⟩) := by kernel_rfl
theorem e_wtoIntS (C : Oracle) (a0 : Sl) (H : AH) : (procM P T C (.fn F.wtoIntS) [.sc (.sl a0)] H).run =
  (mkB H 1 8 [.int .i64 0] (a0.n : Int) (a0.n : Int)).bind fun m1 =>
  (C (.loop F.wtoIntS 0) [.sc (.sl a0), .sc (.sl m1.1), .sc (.int .i64 0)] m1.2).bind fun r7 =>
  cond (Nat.beq r7.e 2)
  (some ⟨1, [.sc (.sl m1.1)], r7.H⟩)
  (none) := by kernel_rfl
/- loop.example/g03211/laws.eqIntS -/
theorem e_weqIntS_0 (C : Oracle) (x0 x1 : Sl) (x5 : Int) (H : AH) : (procM P T C (.loop F.weqIntS 0) [.sc (.sl x0), .sc (.sl x1), .sc (.int .i64 x5)] H).run =
  cond (decide (x5 < (x0.n : Int)))
  ((ixA x0 x5 1).bind fun o1 =>
   (rdB H x0.b).bind fun c2 =>
   (intAt .i64 c2 o1).bind fun n3 =>
   (ixA x1 x5 1).bind fun o4 =>
   (rdB H x1.b).bind fun c5 =>
   (intAt .i64 c5 o4).bind fun n6 =>
   cond (n3 != n6)
   (some ⟨1, [.sc (.bool false)], H⟩)
   (C (.loop F.weqIntS 0) [.sc (.sl x0), .sc (.sl x1), .sc (.int .i64 (IntKind.wrap .i64 (x5 + 1)))] H))
  (some ⟨2, [], H⟩) := by kernel_rfl
theorem e_weqIntS (C : Oracle) (a0 a1 : Sl) (H : AH) : (procM P T C (.fn F.weqIntS) [.sc (.sl a0), .sc (.sl a1)] H).run =
  cond ((a0.n : Int) != (a1.n : Int))
  (some ⟨1, [.sc (.bool false)], H⟩)
  ((C (.loop F.weqIntS 0) [.sc (.sl a0), .sc (.sl a1), .sc (.int .i64 0)] H).bind fun r7 =>
   cond (Nat.beq r7.e 1)
   ((nthP r7.vs 0).bind fun p8 =>
    p8.sc?.bind fun c9 =>
    (boolAt [c9] 0).bind fun b10 =>
    some ⟨1, [.sc (.bool b10)], r7.H⟩)
   (cond (Nat.beq r7.e 2)
    (some ⟨1, [.sc (.bool true)], r7.H⟩)
    (none))) := by kernel_rfl
/- loop.example/g03211/laws.markIntS -/
theorem e_wmarkIntS_0 (C : Oracle) (x0 : Sl) (x1 x5 : Int) (H : AH) : (procM P T C (.loop F.wmarkIntS 0) [.sc (.sl x0), .sc (.int .i64 x1), .sc (.int .i64 x5)] H).run =
  cond (decide (x5 < (x0.n : Int)))
  ((ixA x0 x5 1).bind fun o1 =>
   (putR H x0.b o1 [.int .i64 x1]).bind fun H2 =>
   C (.loop F.wmarkIntS 0) [.sc (.sl x0), .sc (.int .i64 (IntKind.wrap .i64 (x1 + 1))), .sc (.int .i64 (IntKind.wrap .i64 (x5 + 1)))] H2)
  (some ⟨2, [.sc (.int .i64 x1)], H⟩) := by kernel_rfl
theorem e_wmarkIntS (C : Oracle) (a0 : Sl) (a1 : Int) (H : AH) : (procM P T C (.fn F.wmarkIntS) [.sc (.sl a0), .sc (.int .i64 a1)] H).run =
  (C (.loop F.wmarkIntS 0) [.sc (.sl a0), .sc (.int .i64 a1), .sc (.int .i64 0)] H).bind fun r3 =>
  cond (Nat.beq r3.e 2)
  ((nthP r3.vs 0).bind fun p4 =>
   p4.sc?.bind fun c5 =>
   (intAt .i64 [c5] 0).bind fun n6 =>
   some ⟨1, [.sc (.int .i64 n6)], r3.H⟩)
  (none) := by kernel_rfl
/- loop.example/g03211/laws.szIntNetwork -/
theorem e_wszIntNetwork (C : Oracle) (a0_0 : Sl) (a1 : Int) (H : AH) : (procM P T C (.fn F.wszIntNetwork) [.agg [.sl a0_0], .sc (.int .i64 a1)] H).run =
  (C (.fn F.wszTensorS) [.sc (.sl a0_0), .sc (.int .i64 a1)] H).bind fun r1 =>
  (oneP r1.vs).bind fun p2 =>
  p2.sc?.bind fun c3 =>
  (intAt .i64 [c3] 0).bind fun n4 =>
  cond (decide (n4 < 0))
  (some ⟨1, [.sc (.int .i64 (-1))], r1.H⟩)
  (some ⟨1, [.sc (.int .i64 n4)], r1.H⟩) := by kernel_rfl
/- loop.example/g03211/laws.toIntNetwork -/
theorem e_wtoIntNetwork (C : Oracle) (a0_0 : Sl) (H : AH) : (procM P T C (.fn F.wtoIntNetwork) [.agg [.sl a0_0]] H).run =
  (C (.fn F.wtoTensorS) [.sc (.sl a0_0)] H).bind fun r1 =>
  (oneP r1.vs).bind fun p2 =>
  p2.sc?.bind fun c3 =>
  (slAt [c3] 0).bind fun s4 =>
  some ⟨1, [.agg [.sl s4]], r1.H⟩ := by kernel_rfl
/- loop.example/g03211/laws.eqIntNetwork -/
theorem e_weqIntNetwork (C : Oracle) (a0_0 a1_0 : Sl) (H : AH) : (procM P T C (.fn F.weqIntNetwork) [.agg [.sl a0_0], .agg [.sl a1_0]] H).run =
  (C (.fn F.weqTensorS) [.sc (.sl a0_0), .sc (.sl a1_0)] H).bind fun r1 =>
  (oneP r1.vs).bind fun p2 =>
  p2.sc?.bind fun c3 =>
  (boolAt [c3] 0).bind fun b4 =>
  cond (!b4)
  (some ⟨1, [.sc (.bool false)], r1.H⟩)
  (some ⟨1, [.sc (.bool true)], r1.H⟩) := by kernel_rfl
/- loop.example/g03211/laws.eqCertificate -/
theorem e_weqCertificate (C : Oracle) (a0_0 a0_1 a1_0 a1_1 : Sl) (H : AH) : (procM P T C (.fn F.weqCertificate) [.agg [.sl a0_0, .sl a0_1], .agg [.sl a1_0, .sl a1_1]] H).run =
  (C (.fn F.weqIntS) [.sc (.sl a0_0), .sc (.sl a1_0)] H).bind fun r1 =>
  (oneP r1.vs).bind fun p2 =>
  p2.sc?.bind fun c3 =>
  (boolAt [c3] 0).bind fun b4 =>
  cond (!b4)
  (some ⟨1, [.sc (.bool false)], r1.H⟩)
  ((C (.fn F.weqIntS) [.sc (.sl a0_1), .sc (.sl a1_1)] r1.H).bind fun r5 =>
   (oneP r5.vs).bind fun p6 =>
   p6.sc?.bind fun c7 =>
   (boolAt [c7] 0).bind fun b8 =>
   cond (!b8)
   (some ⟨1, [.sc (.bool false)], r5.H⟩)
   (some ⟨1, [.sc (.bool true)], r5.H⟩)) := by kernel_rfl
/- loop.example/g03211/spec.MakeCertificate -/
theorem e_sMakeCertificate_0 (C : Oracle) (x5 x6 : Int) (y1_0 y2_0 y2_1 y4_0 y4_1 : Sl) (H : AH) : (procM P T C (.loop F.sMakeCertificate 0) [.sc (.int .i64 x5), .sc (.int .i64 x6), .agg [.sl y1_0], .agg [.sl y2_0, .sl y2_1], .agg [.sl y4_0, .sl y4_1]] H).run =
  ((cond ((y4_0.n : Int) == 0)
   (some ⟨0, [], H⟩)
   ((C (.fn F.sl42Bound) [.sc (.sl y1_0)] H).bind fun r5 =>
    (oneP r5.vs).bind fun p6 =>
    p6.sc?.bind fun c7 =>
    (intAt .i64 [c7] 0).bind fun n8 =>
    cond (decide (x5 ≤ (IntKind.wrap .i64 (2 * n8))))
    (some ⟨0, [], r5.H⟩)
    (some ⟨2, [], r5.H⟩)) : Option Out)).bind fun r9 =>
  cond (Nat.beq r9.e 0)
  ((C (.fn F.sIsPrime) [.sc (.int .i64 x6)] r9.H).bind fun r10 =>
   (oneP r10.vs).bind fun p11 =>
   p11.sc?.bind fun c12 =>
   (boolAt [c12] 0).bind fun b13 =>
   cond (!b13)
   (C (.loop F.sMakeCertificate 0) [.sc (.int .i64 x5), .sc (.int .i64 (IntKind.wrap .i64 (x6 - 1))), .agg [.sl y1_0], .agg [.sl y2_0, .sl y2_1], .agg [.sl y4_0, .sl y4_1]] r10.H)
   ((C (.fn F.sl42Residue) [.agg [.sl y1_0], .sc (.int .i64 x6)] r10.H).bind fun r14 =>
    (lenP r14.vs 2).bind fun _ =>
    (nthP r14.vs 0).bind fun p15 =>
    p15.sc?.bind fun c16 =>
    (intAt .i64 [c16] 0).bind fun n17 =>
    (nthP r14.vs 1).bind fun p18 =>
    p18.sc?.bind fun c19 =>
    (boolAt [c19] 0).bind fun b20 =>
    cond (!b20)
    (some ⟨1, [.sc (.bool false), .agg [.sl ⟨0, 0, 0, 0, true⟩, .sl ⟨0, 0, 0, 0, true⟩], .agg [.sl y4_0, .sl y4_1]], r14.H⟩)
    ((newB r14.H 1 [.int .i64 x6]).bind fun h21 =>
     (rng h21.2 h21.1 0 (1 * 1)).bind fun l22 =>
     (appB h21.2 1 8 y4_0 l22 1).bind fun m23 =>
     (newB m23.2 1 [.int .i64 n17]).bind fun h24 =>
     (rng h24.2 h24.1 0 (1 * 1)).bind fun l25 =>
     (appB h24.2 1 8 y4_1 l25 1).bind fun m26 =>
     C (.loop F.sMakeCertificate 0) [.sc (.int .i64 (IntKind.wrap .i64 (x5 * x6))), .sc (.int .i64 (IntKind.wrap .i64 (x6 - 1))), .agg [.sl y1_0], .agg [.sl y2_0, .sl y2_1], .agg [.sl m23.1, .sl m26.1]] m26.2)))
  (cond (Nat.beq r9.e 2)
   (some ⟨2, [.agg [.sl y2_0, .sl y2_1], .agg [.sl y4_0, .sl y4_1]], r9.H⟩)
   (none)) := by kernel_rfl
theorem e_sMakeCertificate (C : Oracle) (a0_0 : Sl) (H : AH) : (procM P T C (.fn F.sMakeCertificate) [.agg [.sl a0_0]] H).run =
  (C (.fn F.sIntOk) [.agg [.sl a0_0]] H).bind fun r1 =>
  (oneP r1.vs).bind fun p2 =>
  p2.sc?.bind fun c3 =>
  (boolAt [c3] 0).bind fun b4 =>
  cond (!b4)
  (some ⟨1, [.agg [.sl ⟨0, 0, 0, 0, true⟩, .sl ⟨0, 0, 0, 0, true⟩], .sc (.bool false)], r1.H⟩)
  ((C (.loop F.sMakeCertificate 0) [.sc (.int .i64 1), .sc (.int .i64 1000003), .agg [.sl a0_0], .agg [.sl ⟨0, 0, 0, 0, true⟩, .sl ⟨0, 0, 0, 0, true⟩], .agg [.sl ⟨0, 0, 0, 0, true⟩, .sl ⟨0, 0, 0, 0, true⟩]] r1.H).bind fun r27 =>
   cond (Nat.beq r27.e 1)
   ((nthP r27.vs 0).bind fun p28 =>
    p28.sc?.bind fun c29 =>
    (boolAt [c29] 0).bind fun b30 =>
    ((nthP r27.vs 1).bind PV.agg?).bind fun l31 =>
    cond (decide (l31.length = 2))
    ((slAt l31 0).bind fun s32 =>
     (slAt l31 1).bind fun s33 =>
     ((nthP r27.vs 2).bind PV.agg?).bind fun l34 =>
     cond (decide (l34.length = 2))
     ((slAt l34 0).bind fun s35 =>
      (slAt l34 1).bind fun s36 =>
      some ⟨1, [.agg [.sl s32, .sl s33], .sc (.bool b30)], r27.H⟩)
     (none))
    (none))
   (cond (Nat.beq r27.e 2)
    (((nthP r27.vs 0).bind PV.agg?).bind fun l37 =>
     cond (decide (l37.length = 2))
     ((slAt l37 0).bind fun s38 =>
      (slAt l37 1).bind fun s39 =>
      ((nthP r27.vs 1).bind PV.agg?).bind fun l40 =>
      cond (decide (l40.length = 2))
      ((slAt l40 0).bind fun s41 =>
       (slAt l40 1).bind fun s42 =>
       some ⟨1, [.agg [.sl s41, .sl s42], .sc (.bool true)], r27.H⟩)
      (none))
     (none))
    (none))) := by kernel_rfl
/- loop.example/g03211/impl.MakeCertificate -/
theorem e_iMakeCertificate_0 (C : Oracle) (x4 x6 x7 : Int) (y1_0 y2_0 y2_1 y5_0 y5_1 : Sl) (H : AH) : (procM P T C (.loop F.iMakeCertificate 0) [.sc (.int .i64 x4), .sc (.int .i64 x6), .sc (.int .i64 x7), .agg [.sl y1_0], .agg [.sl y2_0, .sl y2_1], .agg [.sl y5_0, .sl y5_1]] H).run =
  ((cond ((y5_0.n : Int) == 0)
   (some ⟨0, [], H⟩)
   (cond (decide (x6 ≤ (IntKind.wrap .i64 (2 * x4))))
    (some ⟨0, [], H⟩)
    (some ⟨2, [], H⟩)) : Option Out)).bind fun r9 =>
  cond (Nat.beq r9.e 0)
  ((C (.fn F.iIsPrime) [.sc (.int .i64 x7)] r9.H).bind fun r10 =>
   (oneP r10.vs).bind fun p11 =>
   p11.sc?.bind fun c12 =>
   (boolAt [c12] 0).bind fun b13 =>
   cond (!b13)
   (C (.loop F.iMakeCertificate 0) [.sc (.int .i64 x4), .sc (.int .i64 x6), .sc (.int .i64 (IntKind.wrap .i64 (x7 - 1))), .agg [.sl y1_0], .agg [.sl y2_0, .sl y2_1], .agg [.sl y5_0, .sl y5_1]] r10.H)
   ((C (.fn F.iresidueOf) [.agg [.sl y1_0], .sc (.int .i64 x7)] r10.H).bind fun r14 =>
    (lenP r14.vs 2).bind fun _ =>
    (nthP r14.vs 0).bind fun p15 =>
    p15.sc?.bind fun c16 =>
    (intAt .i64 [c16] 0).bind fun n17 =>
    (nthP r14.vs 1).bind fun p18 =>
    p18.sc?.bind fun c19 =>
    (boolAt [c19] 0).bind fun b20 =>
    cond (!b20)
    (some ⟨1, [.sc (.bool false), .agg [.sl ⟨0, 0, 0, 0, true⟩, .sl ⟨0, 0, 0, 0, true⟩], .agg [.sl y5_0, .sl y5_1]], r14.H⟩)
    ((newB r14.H 1 [.int .i64 x7]).bind fun h21 =>
     (rng h21.2 h21.1 0 (1 * 1)).bind fun l22 =>
     (appB h21.2 1 8 y5_0 l22 1).bind fun m23 =>
     (newB m23.2 1 [.int .i64 n17]).bind fun h24 =>
     (rng h24.2 h24.1 0 (1 * 1)).bind fun l25 =>
     (appB h24.2 1 8 y5_1 l25 1).bind fun m26 =>
     C (.loop F.iMakeCertificate 0) [.sc (.int .i64 x4), .sc (.int .i64 (IntKind.wrap .i64 (x6 * x7))), .sc (.int .i64 (IntKind.wrap .i64 (x7 - 1))), .agg [.sl y1_0], .agg [.sl y2_0, .sl y2_1], .agg [.sl m23.1, .sl m26.1]] m26.2)))
  (cond (Nat.beq r9.e 2)
   (some ⟨2, [.agg [.sl y2_0, .sl y2_1], .agg [.sl y5_0, .sl y5_1]], r9.H⟩)
   (none)) := by kernel_rfl
theorem e_iMakeCertificate (C : Oracle) (a0_0 : Sl) (H : AH) : (procM P T C (.fn F.iMakeCertificate) [.agg [.sl a0_0]] H).run =
  (C (.fn F.iIntOk) [.agg [.sl a0_0]] H).bind fun r1 =>
  (oneP r1.vs).bind fun p2 =>
  p2.sc?.bind fun c3 =>
  (boolAt [c3] 0).bind fun b4 =>
  cond (!b4)
  (some ⟨1, [.agg [.sl ⟨0, 0, 0, 0, true⟩, .sl ⟨0, 0, 0, 0, true⟩], .sc (.bool false)], r1.H⟩)
  ((C (.fn F.iIntBound) [.agg [.sl a0_0]] r1.H).bind fun r5 =>
   (oneP r5.vs).bind fun p6 =>
   p6.sc?.bind fun c7 =>
   (intAt .i64 [c7] 0).bind fun n8 =>
   (C (.loop F.iMakeCertificate 0) [.sc (.int .i64 n8), .sc (.int .i64 1), .sc (.int .i64 1000003), .agg [.sl a0_0], .agg [.sl ⟨0, 0, 0, 0, true⟩, .sl ⟨0, 0, 0, 0, true⟩], .agg [.sl ⟨0, 0, 0, 0, true⟩, .sl ⟨0, 0, 0, 0, true⟩]] r5.H).bind fun r27 =>
   cond (Nat.beq r27.e 1)
   ((nthP r27.vs 0).bind fun p28 =>
    p28.sc?.bind fun c29 =>
    (boolAt [c29] 0).bind fun b30 =>
    ((nthP r27.vs 1).bind PV.agg?).bind fun l31 =>
    cond (decide (l31.length = 2))
    ((slAt l31 0).bind fun s32 =>
     (slAt l31 1).bind fun s33 =>
     ((nthP r27.vs 2).bind PV.agg?).bind fun l34 =>
     cond (decide (l34.length = 2))
     ((slAt l34 0).bind fun s35 =>
      (slAt l34 1).bind fun s36 =>
      some ⟨1, [.agg [.sl s32, .sl s33], .sc (.bool b30)], r27.H⟩)
     (none))
    (none))
   (cond (Nat.beq r27.e 2)
    (((nthP r27.vs 0).bind PV.agg?).bind fun l37 =>
     cond (decide (l37.length = 2))
     ((slAt l37 0).bind fun s38 =>
      (slAt l37 1).bind fun s39 =>
      ((nthP r27.vs 1).bind PV.agg?).bind fun l40 =>
      cond (decide (l40.length = 2))
      ((slAt l40 0).bind fun s41 =>
       (slAt l40 1).bind fun s42 =>
       some ⟨1, [.agg [.sl s41, .sl s42], .sc (.bool true)], r27.H⟩)
      (none))
     (none))
    (none))) := by kernel_rfl
/- loop.example/g03211/laws.markIntNetwork -/
theorem e_wmarkIntNetwork (C : Oracle) (a0_0 : Sl) (a1 : Int) (H : AH) : (procM P T C (.fn F.wmarkIntNetwork) [.agg [.sl a0_0], .sc (.int .i64 a1)] H).run =
  (C (.fn F.wmarkTensorS) [.sc (.sl a0_0), .sc (.int .i64 a1)] H).bind fun r1 =>
  (oneP r1.vs).bind fun p2 =>
  p2.sc?.bind fun c3 =>
  (intAt .i64 [c3] 0).bind fun n4 =>
  some ⟨1, [.sc (.int .i64 n4)], r1.H⟩ := by kernel_rfl
/- loop.example/g03211/laws.markCertificate -/
theorem e_wmarkCertificate (C : Oracle) (a0_0 a0_1 : Sl) (a1 : Int) (H : AH) : (procM P T C (.fn F.wmarkCertificate) [.agg [.sl a0_0, .sl a0_1], .sc (.int .i64 a1)] H).run =
  (C (.fn F.wmarkIntS) [.sc (.sl a0_0), .sc (.int .i64 a1)] H).bind fun r1 =>
  (oneP r1.vs).bind fun p2 =>
  p2.sc?.bind fun c3 =>
  (intAt .i64 [c3] 0).bind fun n4 =>
  (C (.fn F.wmarkIntS) [.sc (.sl a0_1), .sc (.int .i64 n4)] r1.H).bind fun r5 =>
  (oneP r5.vs).bind fun p6 =>
  p6.sc?.bind fun c7 =>
  (intAt .i64 [c7] 0).bind fun n8 =>
  some ⟨1, [.sc (.int .i64 n8)], r5.H⟩ := by kernel_rfl
/- loop.example/g03211/laws.heldCertificate -/
theorem e_wheldCertificate (C : Oracle) (a0_0 a0_1 : Sl) (a1 : Int) (H : AH) : (procM P T C (.fn F.wheldCertificate) [.agg [.sl a0_0, .sl a0_1], .sc (.int .i64 a1)] H).run =
  (C (.fn F.wheldIntS) [.sc (.sl a0_0), .sc (.int .i64 a1)] H).bind fun r1 =>
  (oneP r1.vs).bind fun p2 =>
  p2.sc?.bind fun c3 =>
  (intAt .i64 [c3] 0).bind fun n4 =>
  cond (decide (n4 < 0))
  (some ⟨1, [.sc (.int .i64 (-1))], r1.H⟩)
  ((C (.fn F.wheldIntS) [.sc (.sl a0_1), .sc (.int .i64 n4)] r1.H).bind fun r5 =>
   (oneP r5.vs).bind fun p6 =>
   p6.sc?.bind fun c7 =>
   (intAt .i64 [c7] 0).bind fun n8 =>
   cond (decide (n8 < 0))
   (some ⟨1, [.sc (.int .i64 (-1))], r5.H⟩)
   (some ⟨1, [.sc (.int .i64 n8)], r5.H⟩)) := by kernel_rfl
/- loop.example/g03211/laws.szTensorS -/
theorem e_wszTensorS_0 (C : Oracle) (x0 : Sl) (x1 x5 : Int) (H : AH) : (procM P T C (.loop F.wszTensorS 0) [.sc (.sl x0), .sc (.int .i64 x1), .sc (.int .i64 x5)] H).run =
  cond (decide (x5 < (x0.n : Int)))
  ((ixA x0 x5 3).bind fun o1 =>
   (rdB H x0.b).bind fun c2 =>
   (slAt c2 o1).bind fun s3 =>
   (slAt c2 (o1 + 1)).bind fun s4 =>
   (slAt c2 (o1 + 1 + 1)).bind fun s5 =>
   (C (.fn F.wszTensor) [.agg [.sl s3, .sl s4, .sl s5], .sc (.int .i64 x1)] H).bind fun r6 =>
   (oneP r6.vs).bind fun p7 =>
   p7.sc?.bind fun c8 =>
   (intAt .i64 [c8] 0).bind fun n9 =>
   cond (decide (n9 < 0))
   (some ⟨1, [.sc (.int .i64 (-1))], r6.H⟩)
   (C (.loop F.wszTensorS 0) [.sc (.sl x0), .sc (.int .i64 n9), .sc (.int .i64 (IntKind.wrap .i64 (x5 + 1)))] r6.H))
  (some ⟨2, [.sc (.int .i64 x1)], H⟩) := by kernel_rfl
theorem e_wszTensorS (C : Oracle) (a0 : Sl) (a1 : Int) (H : AH) : (procM P T C (.fn F.wszTensorS) [.sc (.sl a0), .sc (.int .i64 a1)] H).run =
  cond (decide ((IntKind.wrap .i64 (a1 - (a0.n : Int))) < 0))
  (some ⟨1, [.sc (.int .i64 (-1))], H⟩)
  ((C (.loop F.wszTensorS 0) [.sc (.sl a0), .sc (.int .i64 (IntKind.wrap .i64 (a1 - (a0.n : Int)))), .sc (.int .i64 0)] H).bind fun r10 =>
   cond (Nat.beq r10.e 1)
   ((nthP r10.vs 0).bind fun p11 =>
    p11.sc?.bind fun c12 =>
    (intAt .i64 [c12] 0).bind fun n13 =>
    some ⟨1, [.sc (.int .i64 n13)], r10.H⟩)
   (cond (Nat.beq r10.e 2)
    ((nthP r10.vs 0).bind fun p14 =>
     p14.sc?.bind fun c15 =>
     (intAt .i64 [c15] 0).bind fun n16 =>
     some ⟨1, [.sc (.int .i64 n16)], r10.H⟩)
    (none))) := by kernel_rfl
/- loop.example/g03211/laws.szIntS -/
theorem e_wszIntS (C : Oracle) (a0 : Sl) (a1 : Int) (H : AH) : (procM P T C (.fn F.wszIntS) [.sc (.sl a0), .sc (.int .i64 a1)] H).run =
  cond (decide ((IntKind.wrap .i64 (a1 - (a0.n : Int))) < 0))
  (some ⟨1, [.sc (.int .i64 (-1))], H⟩)
  (some ⟨1, [.sc (.int .i64 (IntKind.wrap .i64 (a1 - (a0.n : Int))))], H⟩) := by kernel_rfl
/- loop.example/g03211/laws.toTensorS -/
theorem e_wtoTensorS_0 (C : Oracle) (x0 x3 : Sl) (x4 : Int) (H : AH) : (procM P T C (.loop F.wtoTensorS 0) [.sc (.sl x0), .sc (.sl x3), .sc (.int .i64 x4)] H).run =
  cond (decide (x4 < (x0.n : Int)))
  ((ixA x0 x4 3).bind fun o2 =>
   (rdB H x0.b).bind fun c3 =>
   (slAt c3 o2).bind fun s4 =>
   (slAt c3 (o2 + 1)).bind fun s5 =>
   (slAt c3 (o2 + 1 + 1)).bind fun s6 =>
   (C (.fn F.wtoTensor) [.agg [.sl s4, .sl s5, .sl s6]] H).bind fun r7 =>
   (oneP r7.vs).bind fun p8 =>
   p8.agg?.bind fun l9 =>
   cond (decide (l9.length = 3))
   ((slAt l9 0).bind fun s10 =>
    (slAt l9 1).bind fun s11 =>
    (slAt l9 2).bind fun s12 =>
    (ixA x3 x4 3).bind fun o13 =>
    (putR r7.H x3.b o13 [.sl s10, .sl s11, .sl s12]).bind fun H14 =>
    C (.loop F.wtoTensorS 0) [.sc (.sl x0), .sc (.sl x3), .sc (.int .i64 (IntKind.wrap .i64 (x4 + 1)))] H14)
   (none))
  (some ⟨2, [], H⟩) := by kernel_rfl
theorem e_wtoTensorS (C : Oracle) (a0 : Sl) (H : AH) : (procM P T C (.fn F.wtoTensorS) [.sc (.sl a0)] H).run =
  (mkB H 3 72 [.sl ⟨0, 0, 0, 0, true⟩, .sl ⟨0, 0, 0, 0, true⟩, .sl ⟨0, 0, 0, 0, true⟩] (a0.n : Int) (a0.n : Int)).bind fun m1 =>
  (C (.loop F.wtoTensorS 0) [.sc (.sl a0), .sc (.sl m1.1), .sc (.int .i64 0)] m1.2).bind fun r15 =>
  cond (Nat.beq r15.e 2)
  (some ⟨1, [.sc (.sl m1.1)], r15.H⟩)
  (none) := by kernel_rfl
/- loop.example/g03211/laws.eqTensorS -/
theorem e_weqTensorS_0 (C : Oracle) (x0 x1 : Sl) (x5 : Int) (H : AH) : (procM P T C (.loop F.weqTensorS 0) [.sc (.sl x0), .sc (.sl x1), .sc (.int .i64 x5)] H).run =
  cond (decide (x5 < (x0.n : Int)))
  ((ixA x0 x5 3).bind fun o1 =>
   (rdB H x0.b).bind fun c2 =>
   (slAt c2 o1).bind fun s3 =>
   (slAt c2 (o1 + 1)).bind fun s4 =>
   (slAt c2 (o1 + 1 + 1)).bind fun s5 =>
   (ixA x1 x5 3).bind fun o6 =>
   (rdB H x1.b).bind fun c7 =>
   (slAt c7 o6).bind fun s8 =>
   (slAt c7 (o6 + 1)).bind fun s9 =>
   (slAt c7 (o6 + 1 + 1)).bind fun s10 =>
   (C (.fn F.weqTensor) [.agg [.sl s3, .sl s4, .sl s5], .agg [.sl s8, .sl s9, .sl s10]] H).bind fun r11 =>
   (oneP r11.vs).bind fun p12 =>
   p12.sc?.bind fun c13 =>
   (boolAt [c13] 0).bind fun b14 =>
   cond (!b14)
   (some ⟨1, [.sc (.bool false)], r11.H⟩)
   (C (.loop F.weqTensorS 0) [.sc (.sl x0), .sc (.sl x1), .sc (.int .i64 (IntKind.wrap .i64 (x5 + 1)))] r11.H))
  (some ⟨2, [], H⟩) := by kernel_rfl
theorem e_weqTensorS (C : Oracle) (a0 a1 : Sl) (H : AH) : (procM P T C (.fn F.weqTensorS) [.sc (.sl a0), .sc (.sl a1)] H).run =
  cond ((a0.n : Int) != (a1.n : Int))
  (some ⟨1, [.sc (.bool false)], H⟩)
  ((C (.loop F.weqTensorS 0) [.sc (.sl a0), .sc (.sl a1), .sc (.int .i64 0)] H).bind fun r15 =>
   cond (Nat.beq r15.e 1)
   ((nthP r15.vs 0).bind fun p16 =>
    p16.sc?.bind fun c17 =>
    (boolAt [c17] 0).bind fun b18 =>
    some ⟨1, [.sc (.bool b18)], r15.H⟩)
   (cond (Nat.beq r15.e 2)
    (some ⟨1, [.sc (.bool true)], r15.H⟩)
    (none))) := by kernel_rfl
/- loop.example/g03211/spec.OrderOk -/
theorem e_sOrderOk_0 (C : Oracle) (x5 : Int) (x6 x28 : Sl) (x29 x30 : Int) (H : AH) : (procM P T C (.loop F.sOrderOk 0) [.sc (.int .i64 x5), .sc (.sl x6), .sc (.sl x28), .sc (.int .i64 x29), .sc (.int .i64 x30)] H).run =
  cond (decide (x30 < x29))
  ((ixA x28 x30 2).bind fun o6 =>
   (rdB H x28.b).bind fun c7 =>
   (intAt .i64 c7 o6).bind fun n8 =>
   (intAt .i64 c7 (o6 + 1)).bind fun n9 =>
   cond (decide (n8 < 0))
   (some ⟨1, [.sc (.bool false)], H⟩)
   (cond (decide (n8 ≥ n9))
    (some ⟨1, [.sc (.bool false)], H⟩)
    (cond (decide (n9 ≥ (IntKind.wrap .i64 (x5 + x30))))
     (some ⟨1, [.sc (.bool false)], H⟩)
     ((ixA x6 n8 1).bind fun o10 =>
      (rdB H x6.b).bind fun c11 =>
      (boolAt c11 o10).bind fun b12 =>
      cond b12
      (some ⟨1, [.sc (.bool false)], H⟩)
      ((ixA x6 n9 1).bind fun o13 =>
       (rdB H x6.b).bind fun c14 =>
       (boolAt c14 o13).bind fun b15 =>
       cond b15
       (some ⟨1, [.sc (.bool false)], H⟩)
       ((ixA x6 n8 1).bind fun o16 =>
        (putR H x6.b o16 [.bool true]).bind fun H17 =>
        (ixA x6 n9 1).bind fun o18 =>
        (putR H17 x6.b o18 [.bool true]).bind fun H19 =>
        C (.loop F.sOrderOk 0) [.sc (.int .i64 x5), .sc (.sl x6), .sc (.sl x28), .sc (.int .i64 x29), .sc (.int .i64 (IntKind.wrap .i64 (x30 + 1)))] H19))))))
  (some ⟨2, [], H⟩) := by kernel_rfl
theorem e_sOrderOk (C : Oracle) (a0_0 a0_1 a0_2 : Int) (a0_3 a0_4 a1 : Sl) (H : AH) : (procM P T C (.fn F.sOrderOk) [.agg [.int .i64 a0_0, .int .i64 a0_1, .int .i64 a0_2, .sl a0_3, .sl a0_4], .sc (.sl a1)] H).run =
  (C (.fn F.sNetworkOk) [.agg [.int .i64 a0_0, .int .i64 a0_1, .int .i64 a0_2, .sl a0_3, .sl a0_4]] H).bind fun r1 =>
  (oneP r1.vs).bind fun p2 =>
  p2.sc?.bind fun c3 =>
  (boolAt [c3] 0).bind fun b4 =>
  cond (!b4)
  (some ⟨1, [.sc (.bool false)], r1.H⟩)
  (cond ((a1.n : Int) != (if IntKind.wrap .i64 ((a0_3.n : Int) - 1) > 0 then IntKind.wrap .i64 ((a0_3.n : Int) - 1) else 0))
   (some ⟨1, [.sc (.bool false)], r1.H⟩)
   ((mkB r1.H 1 1 [.bool false] (IntKind.wrap .i64 ((a0_3.n : Int) + (a1.n : Int))) (IntKind.wrap .i64 ((a0_3.n : Int) + (a1.n : Int)))).bind fun m5 =>
    (C (.loop F.sOrderOk 0) [.sc (.int .i64 (a0_3.n : Int)), .sc (.sl m5.1), .sc (.sl a1), .sc (.int .i64 (a1.n : Int)), .sc (.int .i64 0)] m5.2).bind fun r20 =>
    cond (Nat.beq r20.e 1)
    ((nthP r20.vs 0).bind fun p21 =>
     p21.sc?.bind fun c22 =>
     (boolAt [c22] 0).bind fun b23 =>
     some ⟨1, [.sc (.bool b23)], r20.H⟩)
    (cond (Nat.beq r20.e 2)
     (some ⟨1, [.sc (.bool true)], r20.H⟩)
     (none)))) := by kernel_rfl
/- loop.example/g03211/spec.l05Ints -/
theorem e_sl05Ints (C : Oracle) (a0 : Sl) (H : AH) : (procM P T C (.fn F.sl05Ints) [.sc (.sl a0)] H).run =
  (newB H 1 []).bind fun h1 =>
  (rng h1.2 a0.b a0.o (a0.n * 1)).bind fun l2 =>
  (appB h1.2 1 8 ⟨h1.1, 0, 0, 0, true⟩ l2 a0.n).bind fun m3 =>
  some ⟨1, [.sc (.sl m3.1)], m3.2⟩ := by kernel_rfl
/- loop.example/g03211/impl.OrderOk -/
theorem e_iOrderOk_0 (C : Oracle) (x5b x5o : Nat) (x23 : Sl) (x24 x25 : Int) (H : AH) : (procM P T C (.loop F.iOrderOk 0) [.sc (.hp x5b x5o), .sc (.sl x23), .sc (.int .i64 x24), .sc (.int .i64 x25)] H).run =
  cond (decide (x25 < x24))
  ((ixA x23 x25 2).bind fun o9 =>
   (rdB H x23.b).bind fun c10 =>
   (intAt .i64 c10 o9).bind fun n11 =>
   (intAt .i64 c10 (o9 + 1)).bind fun n12 =>
   (C (.fn F.x__impl_orderState__follow) [.sc (.hp x5b x5o), .agg [.int .i64 n11, .int .i64 n12]] H).bind fun r13 =>
   (oneP r13.vs).bind fun p14 =>
   p14.sc?.bind fun c15 =>
   (boolAt [c15] 0).bind fun b16 =>
   cond (!b16)
   (some ⟨1, [.sc (.bool false)], r13.H⟩)
   (C (.loop F.iOrderOk 0) [.sc (.hp x5b x5o), .sc (.sl x23), .sc (.int .i64 x24), .sc (.int .i64 (IntKind.wrap .i64 (x25 + 1)))] r13.H))
  (some ⟨2, [], H⟩) := by kernel_rfl
theorem e_iOrderOk (C : Oracle) (a0_0 a0_1 a0_2 : Int) (a0_3 a0_4 a1 : Sl) (H : AH) : (procM P T C (.fn F.iOrderOk) [.agg [.int .i64 a0_0, .int .i64 a0_1, .int .i64 a0_2, .sl a0_3, .sl a0_4], .sc (.sl a1)] H).run =
  (C (.fn F.iNetworkOk) [.agg [.int .i64 a0_0, .int .i64 a0_1, .int .i64 a0_2, .sl a0_3, .sl a0_4]] H).bind fun r1 =>
  (oneP r1.vs).bind fun p2 =>
  p2.sc?.bind fun c3 =>
  (boolAt [c3] 0).bind fun b4 =>
  cond (!b4)
  (some ⟨1, [.sc (.bool false)], r1.H⟩)
  (cond ((a1.n : Int) != (if 0 > IntKind.wrap .i64 ((a0_3.n : Int) - 1) then 0 else IntKind.wrap .i64 ((a0_3.n : Int) - 1)))
   (some ⟨1, [.sc (.bool false)], r1.H⟩)
   ((C (.fn F.istartState) [.agg [.int .i64 a0_0, .int .i64 a0_1, .int .i64 a0_2, .sl a0_3, .sl a0_4]] r1.H).bind fun r5 =>
    (oneP r5.vs).bind fun p6 =>
    p6.sc?.bind fun c7 =>
    (ptrAt [c7] 0).bind fun p8 =>
    (C (.loop F.iOrderOk 0) [.sc (.hp p8.1 p8.2), .sc (.sl a1), .sc (.int .i64 (a1.n : Int)), .sc (.int .i64 0)] r5.H).bind fun r17 =>
    cond (Nat.beq r17.e 1)
    ((nthP r17.vs 0).bind fun p18 =>
     p18.sc?.bind fun c19 =>
     (boolAt [c19] 0).bind fun b20 =>
     some ⟨1, [.sc (.bool b20)], r17.H⟩)
    (cond (Nat.beq r17.e 2)
     (some ⟨1, [.sc (.bool true)], r17.H⟩)
     (none)))) := by kernel_rfl
/- loop.example/g03211/impl.copyInts -/
theorem e_icopyInts (C : Oracle) (a0 : Sl) (H : AH) : (procM P T C (.fn F.icopyInts) [.sc (.sl a0)] H).run =
  (rng H a0.b a0.o (a0.n * 1)).bind fun l1 =>
  (appB H 1 8 ⟨0, 0, 0, 0, true⟩ l1 a0.n).bind fun m2 =>
  some ⟨1, [.sc (.sl m2.1)], m2.2⟩ := by kernel_rfl
/- loop.example/g03211/laws.markTensorS -/
theorem e_wmarkTensorS_0 (C : Oracle) (x0 : Sl) (x1 x5 : Int) (H : AH) : (procM P T C (.loop F.wmarkTensorS 0) [.sc (.sl x0), .sc (.int .i64 x1), .sc (.int .i64 x5)] H).run =
  cond (decide (x5 < (x0.n : Int)))
  ((ixA x0 x5 3).bind fun o1 =>
   (rdB H x0.b).bind fun c2 =>
   (slAt c2 (o1 + 0)).bind fun s3 =>
   (C (.fn F.wmarkIntS) [.sc (.sl s3), .sc (.int .i64 x1)] H).bind fun r4 =>
   (oneP r4.vs).bind fun p5 =>
   p5.sc?.bind fun c6 =>
   (intAt .i64 [c6] 0).bind fun n7 =>
   (ixA x0 x5 3).bind fun o8 =>
   (rdB r4.H x0.b).bind fun c9 =>
   (slAt c9 (o8 + 1)).bind fun s10 =>
   (C (.fn F.wmarkIntS) [.sc (.sl s10), .sc (.int .i64 n7)] r4.H).bind fun r11 =>
   (oneP r11.vs).bind fun p12 =>
   p12.sc?.bind fun c13 =>
   (intAt .i64 [c13] 0).bind fun n14 =>
   (ixA x0 x5 3).bind fun o15 =>
   (rdB r11.H x0.b).bind fun c16 =>
   (slAt c16 (o15 + 2)).bind fun s17 =>
   (C (.fn F.wmarkIntS) [.sc (.sl s17), .sc (.int .i64 n14)] r11.H).bind fun r18 =>
   (oneP r18.vs).bind fun p19 =>
   p19.sc?.bind fun c20 =>
   (intAt .i64 [c20] 0).bind fun n21 =>
   C (.loop F.wmarkTensorS 0) [.sc (.sl x0), .sc (.int .i64 n21), .sc (.int .i64 (IntKind.wrap .i64 (x5 + 1)))] r18.H)
  (some ⟨2, [.sc (.int .i64 x1)], H⟩) := by kernel_rfl
theorem e_wmarkTensorS (C : Oracle) (a0 : Sl) (a1 : Int) (H : AH) : (procM P T C (.fn F.wmarkTensorS) [.sc (.sl a0), .sc (.int .i64 a1)] H).run =
  (C (.loop F.wmarkTensorS 0) [.sc (.sl a0), .sc (.int .i64 a1), .sc (.int .i64 0)] H).bind fun r22 =>
  cond (Nat.beq r22.e 2)
  ((nthP r22.vs 0).bind fun p23 =>
   p23.sc?.bind fun c24 =>
   (intAt .i64 [c24] 0).bind fun n25 =>
   some ⟨1, [.sc (.int .i64 n25)], r22.H⟩)
  (none) := by kernel_rfl
/- loop.example/g03211/laws.heldIntS -/
theorem e_wheldIntS_0 (C : Oracle) (x0 : Sl) (x1 x5 : Int) (H : AH) : (procM P T C (.loop F.wheldIntS 0) [.sc (.sl x0), .sc (.int .i64 x1), .sc (.int .i64 x5)] H).run =
  cond (decide (x5 < (x0.n : Int)))
  ((ixA x0 x5 1).bind fun o1 =>
   (rdB H x0.b).bind fun c2 =>
   (intAt .i64 c2 o1).bind fun n3 =>
   cond (n3 != x1)
   (some ⟨1, [.sc (.int .i64 (-1))], H⟩)
   (C (.loop F.wheldIntS 0) [.sc (.sl x0), .sc (.int .i64 (IntKind.wrap .i64 (x1 + 1))), .sc (.int .i64 (IntKind.wrap .i64 (x5 + 1)))] H))
  (some ⟨2, [.sc (.int .i64 x1)], H⟩) := by kernel_rfl
theorem e_wheldIntS (C : Oracle) (a0 : Sl) (a1 : Int) (H : AH) : (procM P T C (.fn F.wheldIntS) [.sc (.sl a0), .sc (.int .i64 a1)] H).run =
  (C (.loop F.wheldIntS 0) [.sc (.sl a0), .sc (.int .i64 a1), .sc (.int .i64 0)] H).bind fun r4 =>
  cond (Nat.beq r4.e 1)
  ((nthP r4.vs 0).bind fun p5 =>
   p5.sc?.bind fun c6 =>
   (intAt .i64 [c6] 0).bind fun n7 =>
   some ⟨1, [.sc (.int .i64 n7)], r4.H⟩)
  (cond (Nat.beq r4.e 2)
   ((nthP r4.vs 0).bind fun p8 =>
    p8.sc?.bind fun c9 =>
    (intAt .i64 [c9] 0).bind fun n10 =>
    some ⟨1, [.sc (.int .i64 n10)], r4.H⟩)
   (none)) := by kernel_rfl
/- loop.example/g03211/spec.IntOk -/
theorem e_sIntOk_0 (C : Oracle) (x16 : Sl) (x17 x18 : Int) (y1_0 : Sl) (H : AH) : (procM P T C (.loop F.sIntOk 0) [.sc (.sl x16), .sc (.int .i64 x17), .sc (.int .i64 x18), .agg [.sl y1_0]] H).run =
  cond (decide (x18 < x17))
  ((ixA x16 x18 3).bind fun o1 =>
   (rdB H x16.b).bind fun c2 =>
   (slAt c2 o1).bind fun s3 =>
   (slAt c2 (o1 + 1)).bind fun s4 =>
   (slAt c2 (o1 + 1 + 1)).bind fun s5 =>
   (C (.fn F.sTensorSize) [.agg [.sl s3, .sl s4, .sl s5]] H).bind fun r6 =>
   (oneP r6.vs).bind fun p7 =>
   p7.sc?.bind fun c8 =>
   (intAt .i64 [c8] 0).bind fun n9 =>
   cond (decide (n9 < 0))
   (some ⟨1, [.sc (.bool false)], r6.H⟩)
   (cond ((s5.n : Int) != n9)
    (some ⟨1, [.sc (.bool false)], r6.H⟩)
    ((C (.loop F.sIntOk 1) [.sc (.sl s5), .sc (.int .i64 (s5.n : Int)), .sc (.int .i64 0)] r6.H).bind fun r17 =>
     cond (Nat.beq r17.e 1)
     ((nthP r17.vs 0).bind fun p18 =>
      p18.sc?.bind fun c19 =>
      (boolAt [c19] 0).bind fun b20 =>
      some ⟨1, [.sc (.bool b20)], r17.H⟩)
     (cond (Nat.beq r17.e 4)
      ((C (.loop F.sIntOk 2) [.sc (.int .i64 x18), .sc (.sl s3), .sc (.int .i64 (s3.n : Int)), .sc (.int .i64 0), .agg [.sl y1_0], .agg [.sl s3, .sl s4, .sl s5]] r17.H).bind fun r32 =>
       cond (Nat.beq r32.e 1)
       ((nthP r32.vs 0).bind fun p33 =>
        p33.sc?.bind fun c34 =>
        (boolAt [c34] 0).bind fun b35 =>
        some ⟨1, [.sc (.bool b35)], r32.H⟩)
       (cond (Nat.beq r32.e 6)
        (C (.loop F.sIntOk 0) [.sc (.sl x16), .sc (.int .i64 x17), .sc (.int .i64 (IntKind.wrap .i64 (x18 + 1))), .agg [.sl y1_0]] r32.H)
        (none)))
      (none)))))
  (some ⟨2, [], H⟩) := by kernel_rfl
theorem e_sIntOk_1 (C : Oracle) (x35 : Sl) (x36 x37 : Int) (H : AH) : (procM P T C (.loop F.sIntOk 1) [.sc (.sl x35), .sc (.int .i64 x36), .sc (.int .i64 x37)] H).run =
  cond (decide (x37 < x36))
  ((ixA x35 x37 1).bind fun o10 =>
   (rdB H x35.b).bind fun c11 =>
   (intAt .i64 c11 o10).bind fun n12 =>
   (C (.fn F.sl01In) [.sc (.int .i64 n12), .sc (.int .i64 (-9)), .sc (.int .i64 9)] H).bind fun r13 =>
   (oneP r13.vs).bind fun p14 =>
   p14.sc?.bind fun c15 =>
   (boolAt [c15] 0).bind fun b16 =>
   cond (!b16)
   (some ⟨1, [.sc (.bool false)], r13.H⟩)
   (C (.loop F.sIntOk 1) [.sc (.sl x35), .sc (.int .i64 x36), .sc (.int .i64 (IntKind.wrap .i64 (x37 + 1)))] r13.H))
  (some ⟨4, [], H⟩) := by kernel_rfl
theorem e_sIntOk_2 (C : Oracle) (x3 : Int) (x46 : Sl) (x47 x48 : Int) (y1_0 y4_0 y4_1 y4_2 : Sl) (H : AH) : (procM P T C (.loop F.sIntOk 2) [.sc (.int .i64 x3), .sc (.sl x46), .sc (.int .i64 x47), .sc (.int .i64 x48), .agg [.sl y1_0], .agg [.sl y4_0, .sl y4_1, .sl y4_2]] H).run =
  cond (decide (x48 < x47))
  ((ixA x46 x48 1).bind fun o21 =>
   (rdB H x46.b).bind fun c22 =>
   (intAt .i64 c22 o21).bind fun n23 =>
   (slB y1_0 none (some x3) none 3).bind fun s24 =>
   (C (.fn F.sl12Dim) [.sc (.sl s24), .sc (.int .i64 n23)] H).bind fun r25 =>
   (oneP r25.vs).bind fun p26 =>
   p26.sc?.bind fun c27 =>
   (intAt .i64 [c27] 0).bind fun n28 =>
   cond (decide (n28 > 0))
   ((ixA y4_1 x48 1).bind fun o29 =>
    (rdB r25.H y4_1.b).bind fun c30 =>
    (intAt .i64 c30 o29).bind fun n31 =>
    cond (n28 != n31)
    (some ⟨1, [.sc (.bool false)], r25.H⟩)
    (C (.loop F.sIntOk 2) [.sc (.int .i64 x3), .sc (.sl x46), .sc (.int .i64 x47), .sc (.int .i64 (IntKind.wrap .i64 (x48 + 1))), .agg [.sl y1_0], .agg [.sl y4_0, .sl y4_1, .sl y4_2]] r25.H))
   (C (.loop F.sIntOk 2) [.sc (.int .i64 x3), .sc (.sl x46), .sc (.int .i64 x47), .sc (.int .i64 (IntKind.wrap .i64 (x48 + 1))), .agg [.sl y1_0], .agg [.sl y4_0, .sl y4_1, .sl y4_2]] r25.H))
  (some ⟨6, [], H⟩) := by kernel_rfl
theorem e_sIntOk (C : Oracle) (a0_0 : Sl) (H : AH) : (procM P T C (.fn F.sIntOk) [.agg [.sl a0_0]] H).run =
  cond (decide ((a0_0.n : Int) > 12))
  (some ⟨1, [.sc (.bool false)], H⟩)
  ((C (.loop F.sIntOk 0) [.sc (.sl a0_0), .sc (.int .i64 (a0_0.n : Int)), .sc (.int .i64 0), .agg [.sl a0_0]] H).bind fun r36 =>
   cond (Nat.beq r36.e 1)
   ((nthP r36.vs 0).bind fun p37 =>
    p37.sc?.bind fun c38 =>
    (boolAt [c38] 0).bind fun b39 =>
    some ⟨1, [.sc (.bool b39)], r36.H⟩)
   (cond (Nat.beq r36.e 2)
    ((C (.fn F.sl42Bound) [.sc (.sl a0_0)] r36.H).bind fun r40 =>
     (oneP r40.vs).bind fun p41 =>
     p41.sc?.bind fun c42 =>
     (intAt .i64 [c42] 0).bind fun n43 =>
     some ⟨1, [.sc (.bool (decide (n43 ≤ 100000000000000)))], r40.H⟩)
    (none))) := by kernel_rfl
/- loop.example/g03211/spec.l42Residue -/
theorem e_sl42Residue (C : Oracle) (a0_0 : Sl) (a1 : Int) (H : AH) : (procM P T C (.fn F.sl42Residue) [.agg [.sl a0_0], .sc (.int .i64 a1)] H).run =
  (C (.fn F.sModNetwork) [.agg [.sl a0_0], .sc (.int .i64 a1)] H).bind fun r1 =>
  (lenP r1.vs 2).bind fun _ =>
  (nthP r1.vs 0).bind fun p2 =>
  p2.agg?.bind fun l3 =>
  cond (decide (l3.length = 5))
  ((intAt .i64 l3 0).bind fun n4 =>
   (intAt .i64 l3 1).bind fun n5 =>
   (intAt .i64 l3 2).bind fun n6 =>
   (slAt l3 3).bind fun s7 =>
   (slAt l3 4).bind fun s8 =>
   (nthP r1.vs 1).bind fun p9 =>
   p9.sc?.bind fun c10 =>
   (boolAt [c10] 0).bind fun b11 =>
   (C (.fn F.sl28With) [.agg [.int .i64 n4, .int .i64 n5, .int .i64 n6, .sl s7, .sl s8], .sc (.sl ⟨0, 0, 0, 0, true⟩)] r1.H).bind fun r12 =>
   (lenP r12.vs 2).bind fun _ =>
   (nthP r12.vs 0).bind fun p13 =>
   p13.agg?.bind fun l14 =>
   cond (decide (l14.length = 3))
   ((slAt l14 0).bind fun s15 =>
    (slAt l14 1).bind fun s16 =>
    (slAt l14 2).bind fun s17 =>
    (nthP r12.vs 1).bind fun p18 =>
    p18.sc?.bind fun c19 =>
    (boolAt [c19] 0).bind fun b20 =>
    cond (!b20)
    (some ⟨1, [.sc (.int .i64 0), .sc (.bool false)], r12.H⟩)
    ((ixA s17 0 1).bind fun o21 =>
     (rdB r12.H s17.b).bind fun c22 =>
     (intAt .i64 c22 o21).bind fun n23 =>
     some ⟨1, [.sc (.int .i64 n23), .sc (.bool true)], r12.H⟩))
   (none))
  (none) := by kernel_rfl
/- loop.example/g03211/impl.residueOf -/
theorem e_iresidueOf (C : Oracle) (a0_0 : Sl) (a1 : Int) (H : AH) : (procM P T C (.fn F.iresidueOf) [.agg [.sl a0_0], .sc (.int .i64 a1)] H).run =
  (C (.fn F.iModNetwork) [.agg [.sl a0_0], .sc (.int .i64 a1)] H).bind fun r1 =>
  (lenP r1.vs 2).bind fun _ =>
  (nthP r1.vs 0).bind fun p2 =>
  p2.agg?.bind fun l3 =>
  cond (decide (l3.length = 5))
  ((intAt .i64 l3 0).bind fun n4 =>
   (intAt .i64 l3 1).bind fun n5 =>
   (intAt .i64 l3 2).bind fun n6 =>
   (slAt l3 3).bind fun s7 =>
   (slAt l3 4).bind fun s8 =>
   (nthP r1.vs 1).bind fun p9 =>
   p9.sc?.bind fun c10 =>
   (boolAt [c10] 0).bind fun b11 =>
   cond (!b11)
   (some ⟨1, [.sc (.int .i64 0), .sc (.bool false)], r1.H⟩)
   ((C (.fn F.iTotalOf) [.agg [.int .i64 n4, .int .i64 n5, .int .i64 n6, .sl s7, .sl s8]] r1.H).bind fun r12 =>
    (lenP r12.vs 2).bind fun _ =>
    (nthP r12.vs 0).bind fun p13 =>
    p13.sc?.bind fun c14 =>
    (slAt [c14] 0).bind fun s15 =>
    (nthP r12.vs 1).bind fun p16 =>
    p16.sc?.bind fun c17 =>
    (boolAt [c17] 0).bind fun b18 =>
    cond (!b18)
    (some ⟨1, [.sc (.int .i64 0), .sc (.bool false)], r12.H⟩)
    ((ixA s15 0 1).bind fun o19 =>
     (rdB r12.H s15.b).bind fun c20 =>
     (intAt .i64 c20 o19).bind fun n21 =>
     some ⟨1, [.sc (.int .i64 n21), .sc (.bool true)], r12.H⟩)))
  (none) := by kernel_rfl
/- loop.example/g03211/spec.l42Bound -/
theorem e_sl42Bound_0 (C : Oracle) (x3 : Int) (x9 : Sl) (x10 x11 : Int) (H : AH) : (procM P T C (.loop F.sl42Bound 0) [.sc (.int .i64 x3), .sc (.sl x9), .sc (.int .i64 x10), .sc (.int .i64 x11)] H).run =
  cond (decide (x11 < x10))
  ((ixA x9 x11 3).bind fun o1 =>
   (rdB H x9.b).bind fun c2 =>
   (slAt c2 o1).bind fun s3 =>
   (slAt c2 (o1 + 1)).bind fun s4 =>
   (slAt c2 (o1 + 1 + 1)).bind fun s5 =>
   (C (.loop F.sl42Bound 1) [.sc (.int .i64 0), .sc (.sl s5), .sc (.int .i64 (s5.n : Int)), .sc (.int .i64 0)] H).bind fun r9 =>
   cond (Nat.beq r9.e 4)
   ((nthP r9.vs 0).bind fun p10 =>
    p10.sc?.bind fun c11 =>
    (intAt .i64 [c11] 0).bind fun n12 =>
    cond (decide (n12 > 0))
    (cond (n12 == 0)
     (none)
     (cond (decide (x3 > (IntKind.wrap .i64 (Int.tdiv 100000000000000 n12))))
      (C (.loop F.sl42Bound 0) [.sc (.int .i64 100000000000001), .sc (.sl x9), .sc (.int .i64 x10), .sc (.int .i64 (IntKind.wrap .i64 (x11 + 1)))] r9.H)
      (C (.loop F.sl42Bound 0) [.sc (.int .i64 (if 100000000000001 < IntKind.wrap .i64 (x3 * n12) then 100000000000001 else IntKind.wrap .i64 (x3 * n12))), .sc (.sl x9), .sc (.int .i64 x10), .sc (.int .i64 (IntKind.wrap .i64 (x11 + 1)))] r9.H)))
    (C (.loop F.sl42Bound 0) [.sc (.int .i64 (if 100000000000001 < IntKind.wrap .i64 (x3 * n12) then 100000000000001 else IntKind.wrap .i64 (x3 * n12))), .sc (.sl x9), .sc (.int .i64 x10), .sc (.int .i64 (IntKind.wrap .i64 (x11 + 1)))] r9.H))
   (none))
  (some ⟨2, [.sc (.int .i64 x3)], H⟩) := by kernel_rfl
theorem e_sl42Bound_1 (C : Oracle) (x6 : Int) (x16 : Sl) (x17 x18 : Int) (H : AH) : (procM P T C (.loop F.sl42Bound 1) [.sc (.int .i64 x6), .sc (.sl x16), .sc (.int .i64 x17), .sc (.int .i64 x18)] H).run =
  cond (decide (x18 < x17))
  ((ixA x16 x18 1).bind fun o6 =>
   (rdB H x16.b).bind fun c7 =>
   (intAt .i64 c7 o6).bind fun n8 =>
   C (.loop F.sl42Bound 1) [.sc (.int .i64 (IntKind.wrap .i64 (x6 + (if IntKind.wrap .i64 (0 - n8) > n8 then IntKind.wrap .i64 (0 - n8) else n8)))), .sc (.sl x16), .sc (.int .i64 x17), .sc (.int .i64 (IntKind.wrap .i64 (x18 + 1)))] H)
  (some ⟨4, [.sc (.int .i64 x6)], H⟩) := by kernel_rfl
theorem e_sl42Bound (C : Oracle) (a0 : Sl) (H : AH) : (procM P T C (.fn F.sl42Bound) [.sc (.sl a0)] H).run =
  (C (.loop F.sl42Bound 0) [.sc (.int .i64 1), .sc (.sl a0), .sc (.int .i64 (a0.n : Int)), .sc (.int .i64 0)] H).bind fun r13 =>
  cond (Nat.beq r13.e 2)
  ((nthP r13.vs 0).bind fun p14 =>
   p14.sc?.bind fun c15 =>
   (intAt .i64 [c15] 0).bind fun n16 =>
   some ⟨1, [.sc (.int .i64 n16)], r13.H⟩)
  (none) := by kernel_rfl
/- loop.example/g03211/spec.IsPrime -/
theorem e_sIsPrime_0 (C : Oracle) (x0 x3 : Int) (H : AH) : (procM P T C (.loop F.sIsPrime 0) [.sc (.int .i64 x0), .sc (.int .i64 x3)] H).run =
  cond (decide ((IntKind.wrap .i64 (x3 * x3)) ≤ x0))
  (cond (decide (x0 ≤ 1000003))
   (cond (x3 == 0)
    (none)
    (cond ((Int.tmod x0 x3) == 0)
     (some ⟨1, [.sc (.bool false)], H⟩)
     (C (.loop F.sIsPrime 0) [.sc (.int .i64 x0), .sc (.int .i64 (IntKind.wrap .i64 (x3 + 1)))] H)))
   (some ⟨2, [], H⟩))
  (some ⟨2, [], H⟩) := by kernel_rfl
theorem e_sIsPrime (C : Oracle) (a0 : Int) (H : AH) : (procM P T C (.fn F.sIsPrime) [.sc (.int .i64 a0)] H).run =
  (C (.loop F.sIsPrime 0) [.sc (.int .i64 a0), .sc (.int .i64 2)] H).bind fun r1 =>
  cond (Nat.beq r1.e 1)
  ((nthP r1.vs 0).bind fun p2 =>
   p2.sc?.bind fun c3 =>
   (boolAt [c3] 0).bind fun b4 =>
   some ⟨1, [.sc (.bool b4)], r1.H⟩)
  (cond (Nat.beq r1.e 2)
   ((C (.fn F.sl01In) [.sc (.int .i64 a0), .sc (.int .i64 2), .sc (.int .i64 1000003)] r1.H).bind fun r5 =>
    (oneP r5.vs).bind fun p6 =>
    p6.sc?.bind fun c7 =>
    (boolAt [c7] 0).bind fun b8 =>
    some ⟨1, [.sc (.bool b8)], r5.H⟩)
   (none)) := by kernel_rfl
/- loop.example/g03211/impl.IntOk -/
theorem e_iIntOk_0 (C : Oracle) (x12 : Sl) (x13 x14 : Int) (H : AH) : (procM P T C (.loop F.iIntOk 0) [.sc (.sl x12), .sc (.int .i64 x13), .sc (.int .i64 x14)] H).run =
  cond (decide (x14 < x13))
  ((ixA x12 x14 3).bind fun o1 =>
   (rdB H x12.b).bind fun c2 =>
   (slAt c2 o1).bind fun s3 =>
   (slAt c2 (o1 + 1)).bind fun s4 =>
   (slAt c2 (o1 + 1 + 1)).bind fun s5 =>
   (C (.fn F.iintTensorOk) [.agg [.sl s3, .sl s4, .sl s5]] H).bind fun r6 =>
   (oneP r6.vs).bind fun p7 =>
   p7.sc?.bind fun c8 =>
   (boolAt [c8] 0).bind fun b9 =>
   cond (!b9)
   (some ⟨1, [.sc (.bool false)], r6.H⟩)
   (C (.loop F.iIntOk 0) [.sc (.sl x12), .sc (.int .i64 x13), .sc (.int .i64 (IntKind.wrap .i64 (x14 + 1)))] r6.H))
  (some ⟨2, [], H⟩) := by kernel_rfl
theorem e_iIntOk (C : Oracle) (a0_0 : Sl) (H : AH) : (procM P T C (.fn F.iIntOk) [.agg [.sl a0_0]] H).run =
  cond (decide ((a0_0.n : Int) > 12))
  (some ⟨1, [.sc (.bool false)], H⟩)
  ((C (.loop F.iIntOk 0) [.sc (.sl a0_0), .sc (.int .i64 (a0_0.n : Int)), .sc (.int .i64 0)] H).bind fun r10 =>
   cond (Nat.beq r10.e 1)
   ((nthP r10.vs 0).bind fun p11 =>
    p11.sc?.bind fun c12 =>
    (boolAt [c12] 0).bind fun b13 =>
    some ⟨1, [.sc (.bool b13)], r10.H⟩)
   (cond (Nat.beq r10.e 2)
    ((C (.fn F.idimsOf) [.sc (.sl a0_0)] r10.H).bind fun r14 =>
     (lenP r14.vs 2).bind fun _ =>
     (nthP r14.vs 0).bind fun p15 =>
     p15.agg?.bind fun l16 =>
     cond (decide (l16.length = 100))
     ((nthP r14.vs 1).bind fun p17 =>
      p17.sc?.bind fun c18 =>
      (boolAt [c18] 0).bind fun b19 =>
      cond (Nat.beq l16.length 100)
      (cond (decide (0 + l16.length ≤ (zc P Y.t100_int).length))
       (cond b19
        ((C (.fn F.iboundOf) [.sc (.sl a0_0)] r14.H).bind fun r20 =>
         (oneP r20.vs).bind fun p21 =>
         p21.sc?.bind fun c22 =>
         (intAt .i64 [c22] 0).bind fun n23 =>
         some ⟨1, [.sc (.bool (decide (n23 ≤ 100000000000000)))], r20.H⟩)
        (some ⟨1, [.sc (.bool false)], r14.H⟩))
       (none))
      (none))
     (none))
    (none))) := by kernel_rfl
/- loop.example/g03211/impl.IntBound -/
theorem e_iIntBound (C : Oracle) (a0_0 : Sl) (H : AH) : (procM P T C (.fn F.iIntBound) [.agg [.sl a0_0]] H).run =
  (C (.fn F.iIntOk) [.agg [.sl a0_0]] H).bind fun r1 =>
  (oneP r1.vs).bind fun p2 =>
  p2.sc?.bind fun c3 =>
  (boolAt [c3] 0).bind fun b4 =>
  cond (!b4)
  (some ⟨1, [.sc (.int .i64 (-1))], r1.H⟩)
  ((C (.fn F.iboundOf) [.sc (.sl a0_0)] r1.H).bind fun r5 =>
   (oneP r5.vs).bind fun p6 =>
   p6.sc?.bind fun c7 =>
   (intAt .i64 [c7] 0).bind fun n8 =>
   some ⟨1, [.sc (.int .i64 n8)], r5.H⟩) := by kernel_rfl
/- loop.example/g03211/impl.IsPrime -/
theorem e_iIsPrime_0 (C : Oracle) (x0 x3 : Int) (H : AH) : (procM P T C (.loop F.iIsPrime 0) [.sc (.int .i64 x0), .sc (.int .i64 x3)] H).run =
  cond (decide ((IntKind.wrap .i64 (x3 * x3)) ≤ x0))
  (cond (x3 == 0)
   (none)
   (cond ((Int.tmod x0 x3) == 0)
    (some ⟨1, [.sc (.bool false)], H⟩)
    (C (.loop F.iIsPrime 0) [.sc (.int .i64 x0), .sc (.int .i64 (IntKind.wrap .i64 (x3 + 1)))] H)))
  (some ⟨2, [], H⟩) := by kernel_rfl
theorem e_iIsPrime (C : Oracle) (a0 : Int) (H : AH) : (procM P T C (.fn F.iIsPrime) [.sc (.int .i64 a0)] H).run =
  cond (decide (a0 < 2))
  (some ⟨1, [.sc (.bool false)], H⟩)
  (cond (decide (a0 > 1000003))
   (some ⟨1, [.sc (.bool false)], H⟩)
   ((C (.loop F.iIsPrime 0) [.sc (.int .i64 a0), .sc (.int .i64 2)] H).bind fun r1 =>
    cond (Nat.beq r1.e 1)
    ((nthP r1.vs 0).bind fun p2 =>
     p2.sc?.bind fun c3 =>
     (boolAt [c3] 0).bind fun b4 =>
     some ⟨1, [.sc (.bool b4)], r1.H⟩)
    (cond (Nat.beq r1.e 2)
     (some ⟨1, [.sc (.bool true)], r1.H⟩)
     (none)))) := by kernel_rfl
/- loop.example/g03211/laws.szTensor -/
theorem e_wszTensor (C : Oracle) (a0_0 a0_1 a0_2 : Sl) (a1 : Int) (H : AH) : (procM P T C (.fn F.wszTensor) [.agg [.sl a0_0, .sl a0_1, .sl a0_2], .sc (.int .i64 a1)] H).run =
  (C (.fn F.wszIntS) [.sc (.sl a0_0), .sc (.int .i64 a1)] H).bind fun r1 =>
  (oneP r1.vs).bind fun p2 =>
  p2.sc?.bind fun c3 =>
  (intAt .i64 [c3] 0).bind fun n4 =>
  cond (decide (n4 < 0))
  (some ⟨1, [.sc (.int .i64 (-1))], r1.H⟩)
  ((C (.fn F.wszIntS) [.sc (.sl a0_1), .sc (.int .i64 n4)] r1.H).bind fun r5 =>
   (oneP r5.vs).bind fun p6 =>
   p6.sc?.bind fun c7 =>
   (intAt .i64 [c7] 0).bind fun n8 =>
   cond (decide (n8 < 0))
   (some ⟨1, [.sc (.int .i64 (-1))], r5.H⟩)
   ((C (.fn F.wszIntS) [.sc (.sl a0_2), .sc (.int .i64 n8)] r5.H).bind fun r9 =>
    (oneP r9.vs).bind fun p10 =>
    p10.sc?.bind fun c11 =>
    (intAt .i64 [c11] 0).bind fun n12 =>
    cond (decide (n12 < 0))
    (some ⟨1, [.sc (.int .i64 (-1))], r9.H⟩)
    (some ⟨1, [.sc (.int .i64 n12)], r9.H⟩))) := by kernel_rfl
/- loop.example/g03211/laws.toTensor -/
theorem e_wtoTensor (C : Oracle) (a0_0 a0_1 a0_2 : Sl) (H : AH) : (procM P T C (.fn F.wtoTensor) [.agg [.sl a0_0, .sl a0_1, .sl a0_2]] H).run =
  (C (.fn F.wtoIntS) [.sc (.sl a0_0)] H).bind fun r1 =>
  (oneP r1.vs).bind fun p2 =>
  p2.sc?.bind fun c3 =>
  (slAt [c3] 0).bind fun s4 =>
  (C (.fn F.wtoIntS) [.sc (.sl a0_1)] r1.H).bind fun r5 =>
  (oneP r5.vs).bind fun p6 =>
  p6.sc?.bind fun c7 =>
  (slAt [c7] 0).bind fun s8 =>
  (C (.fn F.wtoIntS) [.sc (.sl a0_2)] r5.H).bind fun r9 =>
  (oneP r9.vs).bind fun p10 =>
  p10.sc?.bind fun c11 =>
  (slAt [c11] 0).bind fun s12 =>
  some ⟨1, [.agg [.sl s4, .sl s8, .sl s12]], r9.H⟩ := by kernel_rfl
/- loop.example/g03211/laws.eqTensor -/
theorem e_weqTensor (C : Oracle) (a0_0 a0_1 a0_2 a1_0 a1_1 a1_2 : Sl) (H : AH) : (procM P T C (.fn F.weqTensor) [.agg [.sl a0_0, .sl a0_1, .sl a0_2], .agg [.sl a1_0, .sl a1_1, .sl a1_2]] H).run =
  (C (.fn F.weqIntS) [.sc (.sl a0_0), .sc (.sl a1_0)] H).bind fun r1 =>
  (oneP r1.vs).bind fun p2 =>
  p2.sc?.bind fun c3 =>
  (boolAt [c3] 0).bind fun b4 =>
  cond (!b4)
  (some ⟨1, [.sc (.bool false)], r1.H⟩)
  ((C (.fn F.weqIntS) [.sc (.sl a0_1), .sc (.sl a1_1)] r1.H).bind fun r5 =>
   (oneP r5.vs).bind fun p6 =>
   p6.sc?.bind fun c7 =>
   (boolAt [c7] 0).bind fun b8 =>
   cond (!b8)
   (some ⟨1, [.sc (.bool false)], r5.H⟩)
   ((C (.fn F.weqIntS) [.sc (.sl a0_2), .sc (.sl a1_2)] r5.H).bind fun r9 =>
    (oneP r9.vs).bind fun p10 =>
    p10.sc?.bind fun c11 =>
    (boolAt [c11] 0).bind fun b12 =>
    cond (!b12)
    (some ⟨1, [.sc (.bool false)], r9.H⟩)
    (some ⟨1, [.sc (.bool true)], r9.H⟩))) := by kernel_rfl
/- loop.example/g03211/spec.l17Run -/
theorem e_sl17Run_0 (C : Oracle) (x6b x6o : Nat) (x7 x13 : Sl) (x14 x15 y2_0 y2_1 y2_2 : Int) (y2_3 y2_4 : Sl) (H : AH) : (procM P T C (.loop F.sl17Run 0) [.sc (.hp x6b x6o), .sc (.sl x7), .sc (.sl x13), .sc (.int .i64 x14), .sc (.int .i64 x15), .agg [.int .i64 y2_0, .int .i64 y2_1, .int .i64 y2_2, .sl y2_3, .sl y2_4]] H).run =
  cond (decide (x15 < x14))
  ((ixA x13 x15 2).bind fun o6 =>
   (rdB H x13.b).bind fun c7 =>
   (intAt .i64 c7 o6).bind fun n8 =>
   (intAt .i64 c7 (o6 + 1)).bind fun n9 =>
   (C (.fn F.sl17Step) [.sc (.hp x6b x6o), .sc (.sl y2_4), .agg [.int .i64 n8, .int .i64 n9]] H).bind fun r10 =>
   (oneP r10.vs).bind fun p11 =>
   p11.sc?.bind fun c12 =>
   (intAt .i64 [c12] 0).bind fun n13 =>
   (newB r10.H 1 [.int .i64 n13]).bind fun h14 =>
   (rng h14.2 h14.1 0 (1 * 1)).bind fun l15 =>
   (appB h14.2 1 8 x7 l15 1).bind fun m16 =>
   C (.loop F.sl17Run 0) [.sc (.hp x6b x6o), .sc (.sl m16.1), .sc (.sl x13), .sc (.int .i64 x14), .sc (.int .i64 (IntKind.wrap .i64 (x15 + 1))), .agg [.int .i64 y2_0, .int .i64 y2_1, .int .i64 y2_2, .sl y2_3, .sl y2_4]] m16.2)
  (some ⟨2, [.sc (.sl x7)], H⟩) := by kernel_rfl
theorem e_sl17Run (C : Oracle) (a0_0 a0_1 a0_2 : Int) (a0_3 a0_4 a1 : Sl) (H : AH) : (procM P T C (.fn F.sl17Run) [.agg [.int .i64 a0_0, .int .i64 a0_1, .int .i64 a0_2, .sl a0_3, .sl a0_4], .sc (.sl a1)] H).run =
  (C (.fn F.sl17New) [.agg [.int .i64 a0_0, .int .i64 a0_1, .int .i64 a0_2, .sl a0_3, .sl a0_4]] H).bind fun r1 =>
  (oneP r1.vs).bind fun p2 =>
  p2.sc?.bind fun c3 =>
  (ptrAt [c3] 0).bind fun p4 =>
  (newB r1.H 1 []).bind fun h5 =>
  (C (.loop F.sl17Run 0) [.sc (.hp p4.1 p4.2), .sc (.sl ⟨h5.1, 0, 0, 0, true⟩), .sc (.sl a1), .sc (.int .i64 (a1.n : Int)), .sc (.int .i64 0), .agg [.int .i64 a0_0, .int .i64 a0_1, .int .i64 a0_2, .sl a0_3, .sl a0_4]] h5.2).bind fun r17 =>
  cond (Nat.beq r17.e 2)
  ((nthP r17.vs 0).bind fun p18 =>
   p18.sc?.bind fun c19 =>
   (slAt [c19] 0).bind fun s20 =>
   some ⟨1, [.sc (.hp p4.1 p4.2), .sc (.sl s20)], r17.H⟩)
  (none) := by kernel_rfl
/- loop.example/g03211/spec.l05Product -/
theorem e_sl05Product_0 (C : Oracle) (x1 x5 : Int) (x8 : Sl) (x9 x10 : Int) (H : AH) : (procM P T C (.loop F.sl05Product 0) [.sc (.int .i64 x1), .sc (.int .i64 x5), .sc (.sl x8), .sc (.int .i64 x9), .sc (.int .i64 x10)] H).run =
  cond (decide (x10 < x9))
  ((ixA x8 x10 1).bind fun o1 =>
   (rdB H x8.b).bind fun c2 =>
   (intAt .i64 c2 o1).bind fun n3 =>
   C (.loop F.sl05Product 0) [.sc (.int .i64 x1), .sc (.int .i64 (if IntKind.wrap .i64 (x1 + 1) < IntKind.wrap .i64 (x5 * n3) then IntKind.wrap .i64 (x1 + 1) else IntKind.wrap .i64 (x5 * n3))), .sc (.sl x8), .sc (.int .i64 x9), .sc (.int .i64 (IntKind.wrap .i64 (x10 + 1)))] H)
  (some ⟨2, [.sc (.int .i64 x5)], H⟩) := by kernel_rfl
theorem e_sl05Product (C : Oracle) (a0 : Sl) (a1 : Int) (H : AH) : (procM P T C (.fn F.sl05Product) [.sc (.sl a0), .sc (.int .i64 a1)] H).run =
  (C (.loop F.sl05Product 0) [.sc (.int .i64 a1), .sc (.int .i64 1), .sc (.sl a0), .sc (.int .i64 (a0.n : Int)), .sc (.int .i64 0)] H).bind fun r4 =>
  cond (Nat.beq r4.e 2)
  ((nthP r4.vs 0).bind fun p5 =>
   p5.sc?.bind fun c6 =>
   (intAt .i64 [c6] 0).bind fun n7 =>
   some ⟨1, [.sc (.int .i64 n7)], r4.H⟩)
  (none) := by kernel_rfl
/- loop.example/g03211/impl.startState -/
theorem e_istartState_0 (C : Oracle) (x5b x5o : Nat) (x23 : Sl) (x24 x25 : Int) (H : AH) : (procM P T C (.loop F.istartState 0) [.sc (.hp x5b x5o), .sc (.sl x23), .sc (.int .i64 x24), .sc (.int .i64 x25)] H).run =
  cond (decide (x25 < x24))
  ((ixA x23 x25 3).bind fun o9 =>
   (rdB H x23.b).bind fun c10 =>
   (slAt c10 o9).bind fun s11 =>
   (slAt c10 (o9 + 1)).bind fun s12 =>
   (slAt c10 (o9 + 1 + 1)).bind fun s13 =>
   cond (decide (x5b < H.length))
   ((rdB ((reserve H 1).set (H.length + 0) deadB) x5b).bind fun c14 =>
    (slAt c14 (x5o + 101)).bind fun s15 =>
    (C (.fn F.icopyInts) [.sc (.sl s11)] (reserve H 1)).bind fun r16 =>
    (oneP r16.vs).bind fun p17 =>
    p17.sc?.bind fun c18 =>
    (slAt [c18] 0).bind fun s19 =>
    cond (decide (r16.H.take (H.length) = (reserve H 1).take (H.length)))
    ((newAt r16.H (H.length + 0) 2 [.int .i64 x25, .sl s19]).bind fun h20 =>
     (rng h20.2 h20.1 0 (1 * 2)).bind fun l21 =>
     (appB h20.2 2 32 s15 l21 1).bind fun m22 =>
     (putR m22.2 x5b (x5o + 101) [.sl m22.1]).bind fun H23 =>
     C (.loop F.istartState 0) [.sc (.hp x5b x5o), .sc (.sl x23), .sc (.int .i64 x24), .sc (.int .i64 (IntKind.wrap .i64 (x25 + 1)))] H23)
    (none))
   (none))
  (some ⟨2, [], H⟩) := by kernel_rfl
theorem e_istartState (C : Oracle) (a0_0 a0_1 a0_2 : Int) (a0_3 a0_4 : Sl) (H : AH) : (procM P T C (.fn F.istartState) [.agg [.int .i64 a0_0, .int .i64 a0_1, .int .i64 a0_2, .sl a0_3, .sl a0_4]] H).run =
  (C (.fn F.idimsOf) [.sc (.sl a0_3)] H).bind fun r1 =>
  (lenP r1.vs 2).bind fun _ =>
  (nthP r1.vs 0).bind fun p2 =>
  p2.agg?.bind fun l3 =>
  cond (decide (l3.length = 100))
  ((nthP r1.vs 1).bind fun p4 =>
   p4.sc?.bind fun c5 =>
   (boolAt [c5] 0).bind fun b6 =>
   cond (Nat.beq l3.length 100)
   (cond (decide (0 + l3.length ≤ (zc P Y.t100_int).length))
    (cond (decide (100 ≤ (setAll (zc P Y.t100_int) 0 l3).length))
     ((fillB [(0, 100), (100, 1), (101, 1), (102, 1)] (zc P Y.timpl_orderState) [(0, .agg (((setAll (zc P Y.t100_int) 0 l3).drop 0).take 100)), (1, .sc (.sl a0_4)), (3, .sc (.int .i64 (a0_3.n : Int)))]).bind fun l7 =>
      (newB r1.H 103 l7).bind fun h8 =>
      (C (.loop F.istartState 0) [.sc (.hp h8.1 0), .sc (.sl a0_3), .sc (.int .i64 (a0_3.n : Int)), .sc (.int .i64 0)] h8.2).bind fun r24 =>
      cond (Nat.beq r24.e 2)
      (some ⟨1, [.sc (.hp h8.1 0)], r24.H⟩)
      (none))
     (none))
    (none))
   (none))
  (none) := by kernel_rfl
/- (*loop.example/g03211/impl.orderState).follow -/
theorem e_x__impl_orderState__follow (C : Oracle) (a0b a0o : Nat) (a1_0 a1_1 : Int) (H : AH) : (procM P T C (.fn F.x__impl_orderState__follow) [.sc (.hp a0b a0o), .agg [.int .i64 a1_0, .int .i64 a1_1]] H).run =
  (C (.fn F.x__impl_orderState__place) [.sc (.hp a0b a0o), .sc (.int .i64 a1_0)] H).bind fun r1 =>
  (oneP r1.vs).bind fun p2 =>
  p2.sc?.bind fun c3 =>
  (intAt .i64 [c3] 0).bind fun n4 =>
  (C (.fn F.x__impl_orderState__place) [.sc (.hp a0b a0o), .sc (.int .i64 a1_1)] r1.H).bind fun r5 =>
  (oneP r5.vs).bind fun p6 =>
  p6.sc?.bind fun c7 =>
  (intAt .i64 [c7] 0).bind fun n8 =>
  cond (decide (n4 < 0))
  (some ⟨1, [.sc (.bool false)], r5.H⟩)
  (cond (decide (n8 < 0))
   (some ⟨1, [.sc (.bool false)], r5.H⟩)
   (cond (decide (a1_0 ≥ a1_1))
    (some ⟨1, [.sc (.bool false)], r5.H⟩)
    ((C (.fn F.x__impl_orderState__contract) [.sc (.hp a0b a0o), .sc (.int .i64 n4), .sc (.int .i64 n8)] r5.H).bind fun r9 =>
     (oneP r9.vs).bind fun p10 =>
     p10.agg?.bind fun l11 =>
     cond (decide (l11.length = 2))
     ((intAt .i64 l11 0).bind fun n12 =>
      (intAt .i64 l11 1).bind fun n13 =>
      some ⟨1, [.sc (.bool true)], r9.H⟩)
     (none)))) := by kernel_rfl
/- loop.example/g03211/spec.NetworkOk -/
theorem e_sNetworkOk_0 (C : Oracle) (x19 : Sl) (x20 x21 y1_0 y1_1 y1_2 : Int) (y1_3 y1_4 : Sl) (H : AH) : (procM P T C (.loop F.sNetworkOk 0) [.sc (.sl x19), .sc (.int .i64 x20), .sc (.int .i64 x21), .agg [.int .i64 y1_0, .int .i64 y1_1, .int .i64 y1_2, .sl y1_3, .sl y1_4]] H).run =
  cond (decide (x21 < x20))
  ((ixA x19 x21 3).bind fun o5 =>
   (rdB H x19.b).bind fun c6 =>
   (slAt c6 o5).bind fun s7 =>
   (slAt c6 (o5 + 1)).bind fun s8 =>
   (slAt c6 (o5 + 1 + 1)).bind fun s9 =>
   (C (.fn F.sTensorOk) [.agg [.int .i64 y1_0, .int .i64 y1_1, .int .i64 y1_2], .agg [.sl s7, .sl s8, .sl s9]] H).bind fun r10 =>
   (oneP r10.vs).bind fun p11 =>
   p11.sc?.bind fun c12 =>
   (boolAt [c12] 0).bind fun b13 =>
   cond (!b13)
   (some ⟨1, [.sc (.bool false)], r10.H⟩)
   ((C (.loop F.sNetworkOk 1) [.sc (.int .i64 x21), .sc (.sl s7), .sc (.int .i64 (s7.n : Int)), .sc (.int .i64 0), .agg [.int .i64 y1_0, .int .i64 y1_1, .int .i64 y1_2, .sl y1_3, .sl y1_4], .agg [.sl s7, .sl s8, .sl s9]] r10.H).bind fun r25 =>
    cond (Nat.beq r25.e 1)
    ((nthP r25.vs 0).bind fun p26 =>
     p26.sc?.bind fun c27 =>
     (boolAt [c27] 0).bind fun b28 =>
     some ⟨1, [.sc (.bool b28)], r25.H⟩)
    (cond (Nat.beq r25.e 4)
     (C (.loop F.sNetworkOk 0) [.sc (.sl x19), .sc (.int .i64 x20), .sc (.int .i64 (IntKind.wrap .i64 (x21 + 1))), .agg [.int .i64 y1_0, .int .i64 y1_1, .int .i64 y1_2, .sl y1_3, .sl y1_4]] r25.H)
     (none))))
  (some ⟨2, [], H⟩) := by kernel_rfl
theorem e_sNetworkOk_1 (C : Oracle) (x3 : Int) (x32 : Sl) (x33 x34 y1_0 y1_1 y1_2 : Int) (y1_3 y1_4 y4_0 y4_1 y4_2 : Sl) (H : AH) : (procM P T C (.loop F.sNetworkOk 1) [.sc (.int .i64 x3), .sc (.sl x32), .sc (.int .i64 x33), .sc (.int .i64 x34), .agg [.int .i64 y1_0, .int .i64 y1_1, .int .i64 y1_2, .sl y1_3, .sl y1_4], .agg [.sl y4_0, .sl y4_1, .sl y4_2]] H).run =
  cond (decide (x34 < x33))
  ((ixA x32 x34 1).bind fun o14 =>
   (rdB H x32.b).bind fun c15 =>
   (intAt .i64 c15 o14).bind fun n16 =>
   (slB y1_3 none (some x3) none 3).bind fun s17 =>
   (C (.fn F.sl12Dim) [.sc (.sl s17), .sc (.int .i64 n16)] H).bind fun r18 =>
   (oneP r18.vs).bind fun p19 =>
   p19.sc?.bind fun c20 =>
   (intAt .i64 [c20] 0).bind fun n21 =>
   cond (decide (n21 > 0))
   ((ixA y4_1 x34 1).bind fun o22 =>
    (rdB r18.H y4_1.b).bind fun c23 =>
    (intAt .i64 c23 o22).bind fun n24 =>
    cond (n21 != n24)
    (some ⟨1, [.sc (.bool false)], r18.H⟩)
    (C (.loop F.sNetworkOk 1) [.sc (.int .i64 x3), .sc (.sl x32), .sc (.int .i64 x33), .sc (.int .i64 (IntKind.wrap .i64 (x34 + 1))), .agg [.int .i64 y1_0, .int .i64 y1_1, .int .i64 y1_2, .sl y1_3, .sl y1_4], .agg [.sl y4_0, .sl y4_1, .sl y4_2]] r18.H))
   (C (.loop F.sNetworkOk 1) [.sc (.int .i64 x3), .sc (.sl x32), .sc (.int .i64 x33), .sc (.int .i64 (IntKind.wrap .i64 (x34 + 1))), .agg [.int .i64 y1_0, .int .i64 y1_1, .int .i64 y1_2, .sl y1_3, .sl y1_4], .agg [.sl y4_0, .sl y4_1, .sl y4_2]] r18.H))
  (some ⟨4, [], H⟩) := by kernel_rfl
theorem e_sNetworkOk (C : Oracle) (a0_0 a0_1 a0_2 : Int) (a0_3 a0_4 : Sl) (H : AH) : (procM P T C (.fn F.sNetworkOk) [.agg [.int .i64 a0_0, .int .i64 a0_1, .int .i64 a0_2, .sl a0_3, .sl a0_4]] H).run =
  (C (.fn F.sRingOk) [.agg [.int .i64 a0_0, .int .i64 a0_1, .int .i64 a0_2]] H).bind fun r1 =>
  (oneP r1.vs).bind fun p2 =>
  p2.sc?.bind fun c3 =>
  (boolAt [c3] 0).bind fun b4 =>
  cond (!b4)
  (some ⟨1, [.sc (.bool false)], r1.H⟩)
  (cond (decide ((a0_3.n : Int) > 12))
   (some ⟨1, [.sc (.bool false)], r1.H⟩)
   ((C (.loop F.sNetworkOk 0) [.sc (.sl a0_3), .sc (.int .i64 (a0_3.n : Int)), .sc (.int .i64 0), .agg [.int .i64 a0_0, .int .i64 a0_1, .int .i64 a0_2, .sl a0_3, .sl a0_4]] r1.H).bind fun r29 =>
    cond (Nat.beq r29.e 1)
    ((nthP r29.vs 0).bind fun p30 =>
     p30.sc?.bind fun c31 =>
     (boolAt [c31] 0).bind fun b32 =>
     some ⟨1, [.sc (.bool b32)], r29.H⟩)
    (cond (Nat.beq r29.e 2)
     ((C (.fn F.sl12Dims) [.sc (.sl a0_3), .sc (.sl a0_4)] r29.H).bind fun r33 =>
      (oneP r33.vs).bind fun p34 =>
      p34.sc?.bind fun c35 =>
      (slAt [c35] 0).bind fun s36 =>
      (C (.fn F.sTensorSize) [.agg [.sl a0_4, .sl s36, .sl ⟨0, 0, 0, 0, true⟩]] r33.H).bind fun r37 =>
      (oneP r37.vs).bind fun p38 =>
      p38.sc?.bind fun c39 =>
      (intAt .i64 [c39] 0).bind fun n40 =>
      some ⟨1, [.sc (.bool (decide (n40 ≥ 0)))], r37.H⟩)
     (none)))) := by kernel_rfl
/- loop.example/g03211/spec.l05Find -/
theorem e_sl05Find_0 (C : Oracle) (x1 : Int) (x7 : Sl) (x8 x9 : Int) (H : AH) : (procM P T C (.loop F.sl05Find 0) [.sc (.int .i64 x1), .sc (.sl x7), .sc (.int .i64 x8), .sc (.int .i64 x9)] H).run =
  cond (decide (x9 < x8))
  ((ixA x7 x9 1).bind fun o1 =>
   (rdB H x7.b).bind fun c2 =>
   (intAt .i64 c2 o1).bind fun n3 =>
   cond (n3 == x1)
   (some ⟨1, [.sc (.int .i64 x9)], H⟩)
   (C (.loop F.sl05Find 0) [.sc (.int .i64 x1), .sc (.sl x7), .sc (.int .i64 x8), .sc (.int .i64 (IntKind.wrap .i64 (x9 + 1)))] H))
  (some ⟨2, [], H⟩) := by kernel_rfl
theorem e_sl05Find (C : Oracle) (a0 : Sl) (a1 : Int) (H : AH) : (procM P T C (.fn F.sl05Find) [.sc (.sl a0), .sc (.int .i64 a1)] H).run =
  (C (.loop F.sl05Find 0) [.sc (.int .i64 a1), .sc (.sl a0), .sc (.int .i64 (a0.n : Int)), .sc (.int .i64 0)] H).bind fun r4 =>
  cond (Nat.beq r4.e 1)
  ((nthP r4.vs 0).bind fun p5 =>
   p5.sc?.bind fun c6 =>
   (intAt .i64 [c6] 0).bind fun n7 =>
   some ⟨1, [.sc (.int .i64 n7)], r4.H⟩)
  (cond (Nat.beq r4.e 2)
   (some ⟨1, [.sc (.int .i64 (-1))], r4.H⟩)
   (none)) := by kernel_rfl
/- loop.example/g03211/spec.l12Dims -/
theorem e_sl12Dims_0 (C : Oracle) (x0 x5 x9 : Sl) (x10 x11 : Int) (H : AH) : (procM P T C (.loop F.sl12Dims 0) [.sc (.sl x0), .sc (.sl x5), .sc (.sl x9), .sc (.int .i64 x10), .sc (.int .i64 x11)] H).run =
  cond (decide (x11 < x10))
  ((ixA x9 x11 1).bind fun o2 =>
   (rdB H x9.b).bind fun c3 =>
   (intAt .i64 c3 o2).bind fun n4 =>
   (C (.fn F.sl12Dim) [.sc (.sl x0), .sc (.int .i64 n4)] H).bind fun r5 =>
   (oneP r5.vs).bind fun p6 =>
   p6.sc?.bind fun c7 =>
   (intAt .i64 [c7] 0).bind fun n8 =>
   (newB r5.H 1 [.int .i64 n8]).bind fun h9 =>
   (rng h9.2 h9.1 0 (1 * 1)).bind fun l10 =>
   (appB h9.2 1 8 x5 l10 1).bind fun m11 =>
   C (.loop F.sl12Dims 0) [.sc (.sl x0), .sc (.sl m11.1), .sc (.sl x9), .sc (.int .i64 x10), .sc (.int .i64 (IntKind.wrap .i64 (x11 + 1)))] m11.2)
  (some ⟨2, [.sc (.sl x5)], H⟩) := by kernel_rfl
theorem e_sl12Dims (C : Oracle) (a0 a1 : Sl) (H : AH) : (procM P T C (.fn F.sl12Dims) [.sc (.sl a0), .sc (.sl a1)] H).run =
  (newB H 1 []).bind fun h1 =>
  (C (.loop F.sl12Dims 0) [.sc (.sl a0), .sc (.sl ⟨h1.1, 0, 0, 0, true⟩), .sc (.sl a1), .sc (.int .i64 (a1.n : Int)), .sc (.int .i64 0)] h1.2).bind fun r12 =>
  cond (Nat.beq r12.e 2)
  ((nthP r12.vs 0).bind fun p13 =>
   p13.sc?.bind fun c14 =>
   (slAt [c14] 0).bind fun s15 =>
   some ⟨1, [.sc (.sl s15)], r12.H⟩)
  (none) := by kernel_rfl
/- loop.example/g03211/impl.NetworkOk -/
theorem e_iNetworkOk_0 (C : Oracle) (x26 : Sl) (x27 x28 y1_0 y1_1 y1_2 : Int) (y1_3 y1_4 : Sl) (H : AH) : (procM P T C (.loop F.iNetworkOk 0) [.sc (.sl x26), .sc (.int .i64 x27), .sc (.int .i64 x28), .agg [.int .i64 y1_0, .int .i64 y1_1, .int .i64 y1_2, .sl y1_3, .sl y1_4]] H).run =
  cond (decide (x28 < x27))
  ((ixA x26 x28 3).bind fun o5 =>
   (rdB H x26.b).bind fun c6 =>
   (slAt c6 o5).bind fun s7 =>
   (slAt c6 (o5 + 1)).bind fun s8 =>
   (slAt c6 (o5 + 1 + 1)).bind fun s9 =>
   (C (.fn F.iTensorOk) [.agg [.int .i64 y1_0, .int .i64 y1_1, .int .i64 y1_2], .agg [.sl s7, .sl s8, .sl s9]] H).bind fun r10 =>
   (oneP r10.vs).bind fun p11 =>
   p11.sc?.bind fun c12 =>
   (boolAt [c12] 0).bind fun b13 =>
   cond (!b13)
   (some ⟨1, [.sc (.bool false)], r10.H⟩)
   (C (.loop F.iNetworkOk 0) [.sc (.sl x26), .sc (.int .i64 x27), .sc (.int .i64 (IntKind.wrap .i64 (x28 + 1))), .agg [.int .i64 y1_0, .int .i64 y1_1, .int .i64 y1_2, .sl y1_3, .sl y1_4]] r10.H))
  (some ⟨2, [], H⟩) := by kernel_rfl
theorem e_iNetworkOk_1 (C : Oracle) (x47 : Sl) (x48 x49 : Int) (y5 : List Sc) (H : AH) : (procM P T C (.loop F.iNetworkOk 1) [.sc (.sl x47), .sc (.int .i64 x48), .sc (.int .i64 x49), .agg y5] H).run =
  cond (decide (x49 < x48))
  ((ixA x47 x49 1).bind fun o24 =>
   (rdB H x47.b).bind fun c25 =>
   (intAt .i64 c25 o24).bind fun n26 =>
   cond (decide (n26 < 0))
   (some ⟨1, [.sc (.bool false)], H⟩)
   (cond (decide (n26 > 99))
    (some ⟨1, [.sc (.bool false)], H⟩)
    ((ixA ⟨0, 0, 100, 100, true⟩ n26 1).bind fun o27 =>
     (intAt .i64 y5 o27).bind fun n28 =>
     cond (n28 == 0)
     (some ⟨1, [.sc (.bool false)], H⟩)
     (C (.loop F.iNetworkOk 1) [.sc (.sl x47), .sc (.int .i64 x48), .sc (.int .i64 (IntKind.wrap .i64 (x49 + 1))), .agg y5] H))))
  (some ⟨4, [], H⟩) := by kernel_rfl
theorem e_iNetworkOk (C : Oracle) (a0_0 a0_1 a0_2 : Int) (a0_3 a0_4 : Sl) (H : AH) : (procM P T C (.fn F.iNetworkOk) [.agg [.int .i64 a0_0, .int .i64 a0_1, .int .i64 a0_2, .sl a0_3, .sl a0_4]] H).run =
  (C (.fn F.iRingOk) [.agg [.int .i64 a0_0, .int .i64 a0_1, .int .i64 a0_2]] H).bind fun r1 =>
  (oneP r1.vs).bind fun p2 =>
  p2.sc?.bind fun c3 =>
  (boolAt [c3] 0).bind fun b4 =>
  cond (!b4)
  (some ⟨1, [.sc (.bool false)], r1.H⟩)
  (cond (decide ((a0_3.n : Int) > 12))
   (some ⟨1, [.sc (.bool false)], r1.H⟩)
   (cond (decide ((a0_4.n : Int) > 12))
    (some ⟨1, [.sc (.bool false)], r1.H⟩)
    ((C (.loop F.iNetworkOk 0) [.sc (.sl a0_3), .sc (.int .i64 (a0_3.n : Int)), .sc (.int .i64 0), .agg [.int .i64 a0_0, .int .i64 a0_1, .int .i64 a0_2, .sl a0_3, .sl a0_4]] r1.H).bind fun r14 =>
     cond (Nat.beq r14.e 1)
     ((nthP r14.vs 0).bind fun p15 =>
      p15.sc?.bind fun c16 =>
      (boolAt [c16] 0).bind fun b17 =>
      some ⟨1, [.sc (.bool b17)], r14.H⟩)
     (cond (Nat.beq r14.e 2)
      ((C (.fn F.idimsOf) [.sc (.sl a0_3)] r14.H).bind fun r18 =>
       (lenP r18.vs 2).bind fun _ =>
       (nthP r18.vs 0).bind fun p19 =>
       p19.agg?.bind fun l20 =>
       cond (decide (l20.length = 100))
       ((nthP r18.vs 1).bind fun p21 =>
        p21.sc?.bind fun c22 =>
        (boolAt [c22] 0).bind fun b23 =>
        cond (Nat.beq l20.length 100)
        (cond (decide (0 + l20.length ≤ (zc P Y.t100_int).length))
         (cond (!b23)
          (some ⟨1, [.sc (.bool false)], r18.H⟩)
          ((C (.loop F.iNetworkOk 1) [.sc (.sl a0_4), .sc (.int .i64 (a0_4.n : Int)), .sc (.int .i64 0), .agg (setAll (zc P Y.t100_int) 0 l20)] r18.H).bind fun r29 =>
           cond (Nat.beq r29.e 1)
           ((nthP r29.vs 0).bind fun p30 =>
            p30.sc?.bind fun c31 =>
            (boolAt [c31] 0).bind fun b32 =>
            some ⟨1, [.sc (.bool b32)], r29.H⟩)
           (cond (Nat.beq r29.e 4)
            (cond (decide (100 ≤ (setAll (zc P Y.t100_int) 0 l20).length))
             ((C (.fn F.iaxesOf) [.agg (((setAll (zc P Y.t100_int) 0 l20).drop 0).take 100), .sc (.sl a0_4)] r29.H).bind fun r33 =>
              (oneP r33.vs).bind fun p34 =>
              p34.agg?.bind fun l35 =>
              cond (decide (l35.length = 3))
              ((slAt l35 0).bind fun s36 =>
               (slAt l35 1).bind fun s37 =>
               (slAt l35 2).bind fun s38 =>
               (C (.fn F.iTensorSize) [.agg [.sl s36, .sl s37, .sl s38]] r33.H).bind fun r39 =>
               (oneP r39.vs).bind fun p40 =>
               p40.sc?.bind fun c41 =>
               (intAt .i64 [c41] 0).bind fun n42 =>
               some ⟨1, [.sc (.bool (n42 != (-1)))], r39.H⟩)
              (none))
             (none))
            (none))))
         (none))
        (none))
       (none))
      (none))))) := by kernel_rfl
/- loop.example/g03211/impl.hasInt -/
theorem e_ihasInt_0 (C : Oracle) (x1 : Int) (x7 : Sl) (x8 x9 : Int) (H : AH) : (procM P T C (.loop F.ihasInt 0) [.sc (.int .i64 x1), .sc (.sl x7), .sc (.int .i64 x8), .sc (.int .i64 x9)] H).run =
  cond (decide (x9 < x8))
  ((ixA x7 x9 1).bind fun o1 =>
   (rdB H x7.b).bind fun c2 =>
   (intAt .i64 c2 o1).bind fun n3 =>
   cond (x1 == n3)
   (some ⟨1, [.sc (.bool true)], H⟩)
   (C (.loop F.ihasInt 0) [.sc (.int .i64 x1), .sc (.sl x7), .sc (.int .i64 x8), .sc (.int .i64 (IntKind.wrap .i64 (x9 + 1)))] H))
  (some ⟨2, [], H⟩) := by kernel_rfl
theorem e_ihasInt (C : Oracle) (a0 : Sl) (a1 : Int) (H : AH) : (procM P T C (.fn F.ihasInt) [.sc (.sl a0), .sc (.int .i64 a1)] H).run =
  (C (.loop F.ihasInt 0) [.sc (.int .i64 a1), .sc (.sl a0), .sc (.int .i64 (a0.n : Int)), .sc (.int .i64 0)] H).bind fun r4 =>
  cond (Nat.beq r4.e 1)
  ((nthP r4.vs 0).bind fun p5 =>
   p5.sc?.bind fun c6 =>
   (boolAt [c6] 0).bind fun b7 =>
   some ⟨1, [.sc (.bool b7)], r4.H⟩)
  (cond (Nat.beq r4.e 2)
   (some ⟨1, [.sc (.bool false)], r4.H⟩)
   (none)) := by kernel_rfl
/- loop.example/g03211/impl.dimsOf -/
theorem e_idimsOf_0 (C : Oracle) (x9 : Sl) (x10 x11 : Int) (y2 y4 : List Sc) (H : AH) : (procM P T C (.loop F.idimsOf 0) [.sc (.sl x9), .sc (.int .i64 x10), .sc (.int .i64 x11), .agg y2, .agg y4] H).run =
  cond (decide (x11 < x10))
  ((ixA x9 x11 3).bind fun o1 =>
   (rdB H x9.b).bind fun c2 =>
   (slAt c2 o1).bind fun s3 =>
   (slAt c2 (o1 + 1)).bind fun s4 =>
   (slAt c2 (o1 + 1 + 1)).bind fun s5 =>
   (C (.loop F.idimsOf 1) [.sc (.sl s3), .sc (.int .i64 (s3.n : Int)), .sc (.int .i64 0), .agg y2, .agg y4, .agg [.sl s3, .sl s4, .sl s5]] H).bind fun r26 =>
   cond (Nat.beq r26.e 1)
   ((nthP r26.vs 0).bind fun p27 =>
    p27.sc?.bind fun c28 =>
    (boolAt [c28] 0).bind fun b29 =>
    ((nthP r26.vs 1).bind PV.agg?).bind fun l30 =>
    cond (decide (l30.length = 100))
    (((nthP r26.vs 2).bind PV.agg?).bind fun l31 =>
     cond (decide (l31.length = 100))
     (some ⟨1, [.sc (.bool b29), .agg l30, .agg l31], r26.H⟩)
     (none))
    (none))
   (cond (Nat.beq r26.e 4)
    (((nthP r26.vs 0).bind PV.agg?).bind fun l32 =>
     cond (decide (l32.length = 100))
     (((nthP r26.vs 1).bind PV.agg?).bind fun l33 =>
      cond (decide (l33.length = 100))
      (C (.loop F.idimsOf 0) [.sc (.sl x9), .sc (.int .i64 x10), .sc (.int .i64 (IntKind.wrap .i64 (x11 + 1))), .agg l32, .agg l33] r26.H)
      (none))
     (none))
    (none)))
  (some ⟨2, [.agg y2, .agg y4], H⟩) := by kernel_rfl
theorem e_idimsOf_1 (C : Oracle) (x16 : Sl) (x17 x18 : Int) (y2 y4 : List Sc) (y6_0 y6_1 y6_2 : Sl) (H : AH) : (procM P T C (.loop F.idimsOf 1) [.sc (.sl x16), .sc (.int .i64 x17), .sc (.int .i64 x18), .agg y2, .agg y4, .agg [.sl y6_0, .sl y6_1, .sl y6_2]] H).run =
  cond (decide (x18 < x17))
  ((ixA x16 x18 1).bind fun o6 =>
   (rdB H x16.b).bind fun c7 =>
   (intAt .i64 c7 o6).bind fun n8 =>
   (((ixA ⟨0, 0, 100, 100, true⟩ n8 1).bind fun o9 =>
   (intAt .i64 y4 o9).bind fun n10 =>
   cond (n10 != 0)
   ((ixA ⟨0, 0, 100, 100, true⟩ n8 1).bind fun o11 =>
    (intAt .i64 y4 o11).bind fun n12 =>
    (ixA y6_1 x18 1).bind fun o13 =>
    (rdB H y6_1.b).bind fun c14 =>
    (intAt .i64 c14 o13).bind fun n15 =>
    cond (n12 != n15)
    (cond (decide (100 ≤ y4.length))
     (cond (Nat.beq ((y4.drop 0).take 100).length 100)
      (cond (decide (0 + ((y4.drop 0).take 100).length ≤ y2.length))
       (some ⟨1, [.sc (.bool false), .agg (setAll y2 0 ((y4.drop 0).take 100))], H⟩)
       (none))
      (none))
     (none))
    (some ⟨0, [.agg y2], H⟩))
   (some ⟨0, [.agg y2], H⟩) : Option Out)).bind fun r16 =>
   cond (Nat.beq r16.e 0)
   (((nthP r16.vs 0).bind PV.agg?).bind fun l17 =>
    cond (decide (l17.length = 100))
    ((ixA y6_1 x18 1).bind fun o18 =>
     (rdB r16.H y6_1.b).bind fun c19 =>
     (intAt .i64 c19 o18).bind fun n20 =>
     (ixA ⟨0, 0, 100, 100, true⟩ n8 1).bind fun o21 =>
     cond (decide (o21 + 1 ≤ y4.length))
     (C (.loop F.idimsOf 1) [.sc (.sl x16), .sc (.int .i64 x17), .sc (.int .i64 (IntKind.wrap .i64 (x18 + 1))), .agg l17, .agg (y4.set o21 (.int .i64 n20)), .agg [.sl y6_0, .sl y6_1, .sl y6_2]] r16.H)
     (none))
    (none))
   (cond (Nat.beq r16.e 1)
    ((nthP r16.vs 0).bind fun p22 =>
     p22.sc?.bind fun c23 =>
     (boolAt [c23] 0).bind fun b24 =>
     ((nthP r16.vs 1).bind PV.agg?).bind fun l25 =>
     cond (decide (l25.length = 100))
     (some ⟨1, [.sc (.bool b24), .agg l25, .agg y4], r16.H⟩)
     (none))
    (none)))
  (some ⟨4, [.agg y2, .agg y4], H⟩) := by kernel_rfl
theorem e_idimsOf (C : Oracle) (a0 : Sl) (H : AH) : (procM P T C (.fn F.idimsOf) [.sc (.sl a0)] H).run =
  (C (.loop F.idimsOf 0) [.sc (.sl a0), .sc (.int .i64 (a0.n : Int)), .sc (.int .i64 0), .agg (zc P Y.t100_int), .agg (zc P Y.t100_int)] H).bind fun r34 =>
  cond (Nat.beq r34.e 1)
  ((nthP r34.vs 0).bind fun p35 =>
   p35.sc?.bind fun c36 =>
   (boolAt [c36] 0).bind fun b37 =>
   ((nthP r34.vs 1).bind PV.agg?).bind fun l38 =>
   cond (decide (l38.length = 100))
   (((nthP r34.vs 2).bind PV.agg?).bind fun l39 =>
    cond (decide (l39.length = 100))
    (cond (decide (100 ≤ l38.length))
     (some ⟨1, [.agg ((l38.drop 0).take 100), .sc (.bool b37)], r34.H⟩)
     (none))
    (none))
   (none))
  (cond (Nat.beq r34.e 2)
   (((nthP r34.vs 0).bind PV.agg?).bind fun l40 =>
    cond (decide (l40.length = 100))
    (((nthP r34.vs 1).bind PV.agg?).bind fun l41 =>
     cond (decide (l41.length = 100))
     (cond (decide (100 ≤ l41.length))
      (cond (Nat.beq ((l41.drop 0).take 100).length 100)
       (cond (decide (0 + ((l41.drop 0).take 100).length ≤ l40.length))
        (cond (decide (100 ≤ (setAll l40 0 ((l41.drop 0).take 100)).length))
         (some ⟨1, [.agg (((setAll l40 0 ((l41.drop 0).take 100)).drop 0).take 100), .sc (.bool true)], r34.H⟩)
         (none))
        (none))
       (none))
      (none))
     (none))
    (none))
   (none)) := by kernel_rfl
/- loop.example/g03211/impl.productOf -/
theorem e_iproductOf_0 (C : Oracle) (x3 : Int) (x6 : Sl) (x7 x8 : Int) (H : AH) : (procM P T C (.loop F.iproductOf 0) [.sc (.int .i64 x3), .sc (.sl x6), .sc (.int .i64 x7), .sc (.int .i64 x8)] H).run =
  cond (decide (x8 < x7))
  ((ixA x6 x8 1).bind fun o1 =>
   (rdB H x6.b).bind fun c2 =>
   (intAt .i64 c2 o1).bind fun n3 =>
   C (.loop F.iproductOf 0) [.sc (.int .i64 (IntKind.wrap .i64 (x3 * n3))), .sc (.sl x6), .sc (.int .i64 x7), .sc (.int .i64 (IntKind.wrap .i64 (x8 + 1)))] H)
  (some ⟨2, [.sc (.int .i64 x3)], H⟩) := by kernel_rfl
theorem e_iproductOf (C : Oracle) (a0 : Sl) (H : AH) : (procM P T C (.fn F.iproductOf) [.sc (.sl a0)] H).run =
  (C (.loop F.iproductOf 0) [.sc (.int .i64 1), .sc (.sl a0), .sc (.int .i64 (a0.n : Int)), .sc (.int .i64 0)] H).bind fun r4 =>
  cond (Nat.beq r4.e 2)
  ((nthP r4.vs 0).bind fun p5 =>
   p5.sc?.bind fun c6 =>
   (intAt .i64 [c6] 0).bind fun n7 =>
   some ⟨1, [.sc (.int .i64 n7)], r4.H⟩)
  (none) := by kernel_rfl
/- loop.example/g03211/impl.axesOf -/
theorem e_iaxesOf_0 (C : Oracle) (x14 : Sl) (x15 x16 : Int) (y2 : List Sc) (y5_0 y5_1 y5_2 : Sl) (H : AH) : (procM P T C (.loop F.iaxesOf 0) [.sc (.sl x14), .sc (.int .i64 x15), .sc (.int .i64 x16), .agg y2, .agg [.sl y5_0, .sl y5_1, .sl y5_2]] H).run =
  cond (decide (x16 < x15))
  ((ixA x14 x16 1).bind fun o6 =>
   (rdB H x14.b).bind fun c7 =>
   (intAt .i64 c7 o6).bind fun n8 =>
   (ixA ⟨0, 0, 100, 100, true⟩ n8 1).bind fun o9 =>
   (intAt .i64 y2 o9).bind fun n10 =>
   (ixA y5_1 x16 1).bind fun o11 =>
   (putR H y5_1.b o11 [.int .i64 n10]).bind fun H12 =>
   C (.loop F.iaxesOf 0) [.sc (.sl x14), .sc (.int .i64 x15), .sc (.int .i64 (IntKind.wrap .i64 (x16 + 1))), .agg y2, .agg [.sl y5_0, .sl y5_1, .sl y5_2]] H12)
  (some ⟨2, [], H⟩) := by kernel_rfl
theorem e_iaxesOf (C : Oracle) (a0 : List Sc) (a1 : Sl) (H : AH) : (procM P T C (.fn F.iaxesOf) [.agg a0, .sc (.sl a1)] H).run =
  (C (.fn F.icopyInts) [.sc (.sl a1)] ((reserve H 1).set (H.length + 0) deadB)).bind fun r1 =>
  (oneP r1.vs).bind fun p2 =>
  p2.sc?.bind fun c3 =>
  (slAt [c3] 0).bind fun s4 =>
  cond (decide (r1.H.length ≥ (reserve H 1).length))
  ((mkAt (restB (reserve H 1) r1.H (H.length + 0)) (H.length + 0) 1 8 [.int .i64 0] (a1.n : Int) (a1.n : Int)).bind fun m5 =>
   (C (.loop F.iaxesOf 0) [.sc (.sl a1), .sc (.int .i64 (a1.n : Int)), .sc (.int .i64 0), .agg a0, .agg [.sl s4, .sl m5.1, .sl ⟨0, 0, 0, 0, true⟩]] m5.2).bind fun r13 =>
   cond (Nat.beq r13.e 2)
   (some ⟨1, [.agg [.sl s4, .sl m5.1, .sl ⟨0, 0, 0, 0, true⟩]], r13.H⟩)
   (none))
  (none) := by kernel_rfl
/- loop.example/g03211/spec.TensorSize -/
theorem e_sTensorSize (C : Oracle) (a0_0 a0_1 a0_2 : Sl) (H : AH) : (procM P T C (.fn F.sTensorSize) [.agg [.sl a0_0, .sl a0_1, .sl a0_2]] H).run =
  (C (.fn F.sl05Axes) [.sc (.sl a0_0), .sc (.sl a0_1)] H).bind fun r1 =>
  (oneP r1.vs).bind fun p2 =>
  p2.sc?.bind fun c3 =>
  (boolAt [c3] 0).bind fun b4 =>
  cond (!b4)
  (some ⟨1, [.sc (.int .i64 (-1))], r1.H⟩)
  ((C (.fn F.sl05Product) [.sc (.sl a0_1), .sc (.int .i64 4096)] r1.H).bind fun r5 =>
   (oneP r5.vs).bind fun p6 =>
   p6.sc?.bind fun c7 =>
   (intAt .i64 [c7] 0).bind fun n8 =>
   cond (decide (n8 > 4096))
   (some ⟨1, [.sc (.int .i64 (-1))], r5.H⟩)
   (some ⟨1, [.sc (.int .i64 n8)], r5.H⟩)) := by kernel_rfl
/- loop.example/g03211/spec.l01In -/
theorem e_sl01In (C : Oracle) (a0 a1 a2 : Int) (H : AH) : (procM P T C (.fn F.sl01In) [.sc (.int .i64 a0), .sc (.int .i64 a1), .sc (.int .i64 a2)] H).run =
  cond (decide (a0 ≥ a1))
  (some ⟨1, [.sc (.bool (decide (a0 ≤ a2)))], H⟩)
  (some ⟨1, [.sc (.bool false)], H⟩) := by kernel_rfl
/- loop.example/g03211/spec.l12Dim -/
theorem e_sl12Dim_0 (C : Oracle) (x1 : Int) (x8 : Sl) (x9 x10 : Int) (H : AH) : (procM P T C (.loop F.sl12Dim 0) [.sc (.int .i64 x1), .sc (.sl x8), .sc (.int .i64 x9), .sc (.int .i64 x10)] H).run =
  cond (decide (x10 < x9))
  ((ixA x8 x10 3).bind fun o1 =>
   (rdB H x8.b).bind fun c2 =>
   (slAt c2 o1).bind fun s3 =>
   (slAt c2 (o1 + 1)).bind fun s4 =>
   (slAt c2 (o1 + 1 + 1)).bind fun s5 =>
   (C (.fn F.sl05Find) [.sc (.sl s3), .sc (.int .i64 x1)] H).bind fun r6 =>
   (oneP r6.vs).bind fun p7 =>
   p7.sc?.bind fun c8 =>
   (intAt .i64 [c8] 0).bind fun n9 =>
   cond (decide (n9 ≥ 0))
   ((ixA s4 n9 1).bind fun o10 =>
    (rdB r6.H s4.b).bind fun c11 =>
    (intAt .i64 c11 o10).bind fun n12 =>
    some ⟨1, [.sc (.int .i64 n12)], r6.H⟩)
   (C (.loop F.sl12Dim 0) [.sc (.int .i64 x1), .sc (.sl x8), .sc (.int .i64 x9), .sc (.int .i64 (IntKind.wrap .i64 (x10 + 1)))] r6.H))
  (some ⟨2, [], H⟩) := by kernel_rfl
theorem e_sl12Dim (C : Oracle) (a0 : Sl) (a1 : Int) (H : AH) : (procM P T C (.fn F.sl12Dim) [.sc (.sl a0), .sc (.int .i64 a1)] H).run =
  (C (.loop F.sl12Dim 0) [.sc (.int .i64 a1), .sc (.sl a0), .sc (.int .i64 (a0.n : Int)), .sc (.int .i64 0)] H).bind fun r13 =>
  cond (Nat.beq r13.e 1)
  ((nthP r13.vs 0).bind fun p14 =>
   p14.sc?.bind fun c15 =>
   (intAt .i64 [c15] 0).bind fun n16 =>
   some ⟨1, [.sc (.int .i64 n16)], r13.H⟩)
  (cond (Nat.beq r13.e 2)
   (some ⟨1, [.sc (.int .i64 0)], r13.H⟩)
   (none)) := by kernel_rfl
/- loop.example/g03211/spec.ModNetwork -/
theorem e_sModNetwork_0 (C : Oracle) (x1 : Int) (x25 : Sl) (x26 x27 y6_0 y6_1 y6_2 : Int) (y6_3 y6_4 : Sl) (H : AH) : (procM P T C (.loop F.sModNetwork 0) [.sc (.int .i64 x1), .sc (.sl x25), .sc (.int .i64 x26), .sc (.int .i64 x27), .agg [.int .i64 y6_0, .int .i64 y6_1, .int .i64 y6_2, .sl y6_3, .sl y6_4]] H).run =
  cond (decide (x27 < x26))
  ((ixA x25 x27 3).bind fun o9 =>
   (rdB H x25.b).bind fun c10 =>
   (slAt c10 o9).bind fun s11 =>
   (slAt c10 (o9 + 1)).bind fun s12 =>
   (slAt c10 (o9 + 1 + 1)).bind fun s13 =>
   (C (.fn F.sl05Copy) [.agg [.sl s11, .sl s12, .sl s13]] H).bind fun r14 =>
   (oneP r14.vs).bind fun p15 =>
   p15.agg?.bind fun l16 =>
   cond (decide (l16.length = 3))
   ((slAt l16 0).bind fun s17 =>
    (slAt l16 1).bind fun s18 =>
    (slAt l16 2).bind fun s19 =>
    (C (.loop F.sModNetwork 1) [.sc (.int .i64 x1), .sc (.sl s13), .sc (.int .i64 (s13.n : Int)), .sc (.int .i64 0), .agg [.sl s17, .sl s18, .sl s19]] r14.H).bind fun r25 =>
    cond (Nat.beq r25.e 4)
    ((newB r25.H 3 [.sl s17, .sl s18, .sl s19]).bind fun h26 =>
     (rng h26.2 h26.1 0 (1 * 3)).bind fun l27 =>
     (appB h26.2 3 72 y6_3 l27 1).bind fun m28 =>
     C (.loop F.sModNetwork 0) [.sc (.int .i64 x1), .sc (.sl x25), .sc (.int .i64 x26), .sc (.int .i64 (IntKind.wrap .i64 (x27 + 1))), .agg [.int .i64 y6_0, .int .i64 y6_1, .int .i64 y6_2, .sl m28.1, .sl y6_4]] m28.2)
    (none))
   (none))
  (some ⟨2, [.agg [.int .i64 y6_0, .int .i64 y6_1, .int .i64 y6_2, .sl y6_3, .sl y6_4]], H⟩) := by kernel_rfl
theorem e_sModNetwork_1 (C : Oracle) (x1 : Int) (x34 : Sl) (x35 x36 : Int) (y9_0 y9_1 y9_2 : Sl) (H : AH) : (procM P T C (.loop F.sModNetwork 1) [.sc (.int .i64 x1), .sc (.sl x34), .sc (.int .i64 x35), .sc (.int .i64 x36), .agg [.sl y9_0, .sl y9_1, .sl y9_2]] H).run =
  cond (decide (x36 < x35))
  ((ixA x34 x36 1).bind fun o20 =>
   (rdB H x34.b).bind fun c21 =>
   (intAt .i64 c21 o20).bind fun n22 =>
   cond (x1 == 0)
   (none)
   (cond (x1 == 0)
    (none)
    ((ixA y9_2 x36 1).bind fun o23 =>
     (putR H y9_2.b o23 [.int .i64 (Int.tmod (IntKind.wrap .i64 ((Int.tmod n22 x1) + x1)) x1)]).bind fun H24 =>
     C (.loop F.sModNetwork 1) [.sc (.int .i64 x1), .sc (.sl x34), .sc (.int .i64 x35), .sc (.int .i64 (IntKind.wrap .i64 (x36 + 1))), .agg [.sl y9_0, .sl y9_1, .sl y9_2]] H24)))
  (some ⟨4, [], H⟩) := by kernel_rfl
theorem e_sModNetwork (C : Oracle) (a0_0 : Sl) (a1 : Int) (H : AH) : (procM P T C (.fn F.sModNetwork) [.agg [.sl a0_0], .sc (.int .i64 a1)] H).run =
  (C (.fn F.sIntOk) [.agg [.sl a0_0]] H).bind fun r1 =>
  (oneP r1.vs).bind fun p2 =>
  p2.sc?.bind fun c3 =>
  (boolAt [c3] 0).bind fun b4 =>
  cond (!b4)
  (some ⟨1, [.agg [.int .i64 0, .int .i64 0, .int .i64 0, .sl ⟨0, 0, 0, 0, true⟩, .sl ⟨0, 0, 0, 0, true⟩], .sc (.bool false)], r1.H⟩)
  ((C (.fn F.sIsPrime) [.sc (.int .i64 a1)] r1.H).bind fun r5 =>
   (oneP r5.vs).bind fun p6 =>
   p6.sc?.bind fun c7 =>
   (boolAt [c7] 0).bind fun b8 =>
   cond (!b8)
   (some ⟨1, [.agg [.int .i64 0, .int .i64 0, .int .i64 0, .sl ⟨0, 0, 0, 0, true⟩, .sl ⟨0, 0, 0, 0, true⟩], .sc (.bool false)], r5.H⟩)
   ((C (.loop F.sModNetwork 0) [.sc (.int .i64 a1), .sc (.sl a0_0), .sc (.int .i64 (a0_0.n : Int)), .sc (.int .i64 0), .agg [.int .i64 2, .int .i64 a1, .int .i64 0, .sl ⟨0, 0, 0, 0, true⟩, .sl ⟨0, 0, 0, 0, true⟩]] r5.H).bind fun r29 =>
    cond (Nat.beq r29.e 2)
    (((nthP r29.vs 0).bind PV.agg?).bind fun l30 =>
     cond (decide (l30.length = 5))
     ((intAt .i64 l30 0).bind fun n31 =>
      (intAt .i64 l30 1).bind fun n32 =>
      (intAt .i64 l30 2).bind fun n33 =>
      (slAt l30 3).bind fun s34 =>
      (slAt l30 4).bind fun s35 =>
      some ⟨1, [.agg [.int .i64 n31, .int .i64 n32, .int .i64 n33, .sl s34, .sl s35], .sc (.bool true)], r29.H⟩)
     (none))
    (none))) := by kernel_rfl
/- loop.example/g03211/spec.l28With -/
theorem e_sl28With (C : Oracle) (a0_0 a0_1 a0_2 : Int) (a0_3 a0_4 a1 : Sl) (H : AH) : (procM P T C (.fn F.sl28With) [.agg [.int .i64 a0_0, .int .i64 a0_1, .int .i64 a0_2, .sl a0_3, .sl a0_4], .sc (.sl a1)] H).run =
  (C (.fn F.sl17Plain) [.sc (.int .i64 (a0_3.n : Int))] H).bind fun r1 =>
  (oneP r1.vs).bind fun p2 =>
  p2.sc?.bind fun c3 =>
  (slAt [c3] 0).bind fun s4 =>
  (C (.fn F.sContract) [.agg [.int .i64 a0_0, .int .i64 a0_1, .int .i64 a0_2, .sl a0_3, .sl a1], .sc (.sl s4)] r1.H).bind fun r5 =>
  (lenP r5.vs 2).bind fun _ =>
  (nthP r5.vs 0).bind fun p6 =>
  p6.agg?.bind fun l7 =>
  cond (decide (l7.length = 3))
  ((slAt l7 0).bind fun s8 =>
   (slAt l7 1).bind fun s9 =>
   (slAt l7 2).bind fun s10 =>
   (nthP r5.vs 1).bind fun p11 =>
   p11.sc?.bind fun c12 =>
   (boolAt [c12] 0).bind fun b13 =>
   some ⟨1, [.agg [.sl s8, .sl s9, .sl s10], .sc (.bool b13)], r5.H⟩)
  (none) := by kernel_rfl
/- loop.example/g03211/impl.ModNetwork -/
theorem e_iModNetwork_0 (C : Oracle) (x1 : Int) (x25 : Sl) (x26 x27 y6_0 y6_1 y6_2 : Int) (y6_3 y6_4 : Sl) (H : AH) : (procM P T C (.loop F.iModNetwork 0) [.sc (.int .i64 x1), .sc (.sl x25), .sc (.int .i64 x26), .sc (.int .i64 x27), .agg [.int .i64 y6_0, .int .i64 y6_1, .int .i64 y6_2, .sl y6_3, .sl y6_4]] H).run =
  cond (decide (x27 < x26))
  ((ixA x25 x27 3).bind fun o9 =>
   (rdB H x25.b).bind fun c10 =>
   (slAt c10 o9).bind fun s11 =>
   (slAt c10 (o9 + 1)).bind fun s12 =>
   (slAt c10 (o9 + 1 + 1)).bind fun s13 =>
   (C (.fn F.icopyTensor) [.agg [.sl s11, .sl s12, .sl s13]] H).bind fun r14 =>
   (oneP r14.vs).bind fun p15 =>
   p15.agg?.bind fun l16 =>
   cond (decide (l16.length = 3))
   ((slAt l16 0).bind fun s17 =>
    (slAt l16 1).bind fun s18 =>
    (slAt l16 2).bind fun s19 =>
    (C (.loop F.iModNetwork 1) [.sc (.int .i64 x1), .sc (.sl s19), .sc (.int .i64 (s19.n : Int)), .sc (.int .i64 0), .agg [.sl s17, .sl s18, .sl s19]] r14.H).bind fun r25 =>
    cond (Nat.beq r25.e 4)
    ((newB r25.H 3 [.sl s17, .sl s18, .sl s19]).bind fun h26 =>
     (rng h26.2 h26.1 0 (1 * 3)).bind fun l27 =>
     (appB h26.2 3 72 y6_3 l27 1).bind fun m28 =>
     C (.loop F.iModNetwork 0) [.sc (.int .i64 x1), .sc (.sl x25), .sc (.int .i64 x26), .sc (.int .i64 (IntKind.wrap .i64 (x27 + 1))), .agg [.int .i64 y6_0, .int .i64 y6_1, .int .i64 y6_2, .sl m28.1, .sl y6_4]] m28.2)
    (none))
   (none))
  (some ⟨2, [.agg [.int .i64 y6_0, .int .i64 y6_1, .int .i64 y6_2, .sl y6_3, .sl y6_4]], H⟩) := by kernel_rfl
theorem e_iModNetwork_1 (C : Oracle) (x1 : Int) (x34 : Sl) (x35 x36 : Int) (y9_0 y9_1 y9_2 : Sl) (H : AH) : (procM P T C (.loop F.iModNetwork 1) [.sc (.int .i64 x1), .sc (.sl x34), .sc (.int .i64 x35), .sc (.int .i64 x36), .agg [.sl y9_0, .sl y9_1, .sl y9_2]] H).run =
  cond (decide (x36 < x35))
  ((ixA x34 x36 1).bind fun o20 =>
   (rdB H x34.b).bind fun c21 =>
   (intAt .i64 c21 o20).bind fun n22 =>
   cond (x1 == 0)
   (none)
   (cond (x1 == 0)
    (none)
    ((ixA y9_2 x36 1).bind fun o23 =>
     (putR H y9_2.b o23 [.int .i64 (Int.tmod (IntKind.wrap .i64 ((Int.tmod n22 x1) + x1)) x1)]).bind fun H24 =>
     C (.loop F.iModNetwork 1) [.sc (.int .i64 x1), .sc (.sl x34), .sc (.int .i64 x35), .sc (.int .i64 (IntKind.wrap .i64 (x36 + 1))), .agg [.sl y9_0, .sl y9_1, .sl y9_2]] H24)))
  (some ⟨4, [], H⟩) := by kernel_rfl
theorem e_iModNetwork (C : Oracle) (a0_0 : Sl) (a1 : Int) (H : AH) : (procM P T C (.fn F.iModNetwork) [.agg [.sl a0_0], .sc (.int .i64 a1)] H).run =
  (C (.fn F.iIntOk) [.agg [.sl a0_0]] H).bind fun r1 =>
  (oneP r1.vs).bind fun p2 =>
  p2.sc?.bind fun c3 =>
  (boolAt [c3] 0).bind fun b4 =>
  cond (!b4)
  (some ⟨1, [.agg [.int .i64 0, .int .i64 0, .int .i64 0, .sl ⟨0, 0, 0, 0, true⟩, .sl ⟨0, 0, 0, 0, true⟩], .sc (.bool false)], r1.H⟩)
  ((C (.fn F.iIsPrime) [.sc (.int .i64 a1)] r1.H).bind fun r5 =>
   (oneP r5.vs).bind fun p6 =>
   p6.sc?.bind fun c7 =>
   (boolAt [c7] 0).bind fun b8 =>
   cond (!b8)
   (some ⟨1, [.agg [.int .i64 0, .int .i64 0, .int .i64 0, .sl ⟨0, 0, 0, 0, true⟩, .sl ⟨0, 0, 0, 0, true⟩], .sc (.bool false)], r5.H⟩)
   ((C (.loop F.iModNetwork 0) [.sc (.int .i64 a1), .sc (.sl a0_0), .sc (.int .i64 (a0_0.n : Int)), .sc (.int .i64 0), .agg [.int .i64 2, .int .i64 a1, .int .i64 0, .sl ⟨0, 0, 0, 0, true⟩, .sl ⟨0, 0, 0, 0, true⟩]] r5.H).bind fun r29 =>
    cond (Nat.beq r29.e 2)
    (((nthP r29.vs 0).bind PV.agg?).bind fun l30 =>
     cond (decide (l30.length = 5))
     ((intAt .i64 l30 0).bind fun n31 =>
      (intAt .i64 l30 1).bind fun n32 =>
      (intAt .i64 l30 2).bind fun n33 =>
      (slAt l30 3).bind fun s34 =>
      (slAt l30 4).bind fun s35 =>
      some ⟨1, [.agg [.int .i64 n31, .int .i64 n32, .int .i64 n33, .sl s34, .sl s35], .sc (.bool true)], r29.H⟩)
     (none))
    (none))) := by kernel_rfl
/- loop.example/g03211/impl.TotalOf -/
theorem e_iTotalOf (C : Oracle) (a0_0 a0_1 a0_2 : Int) (a0_3 a0_4 : Sl) (H : AH) : (procM P T C (.fn F.iTotalOf) [.agg [.int .i64 a0_0, .int .i64 a0_1, .int .i64 a0_2, .sl a0_3, .sl a0_4]] H).run =
  (C (.fn F.iOpenNetwork) [.agg [.int .i64 a0_0, .int .i64 a0_1, .int .i64 a0_2, .sl a0_3, .sl a0_4], .sc (.sl ⟨0, 0, 0, 0, true⟩)] H).bind fun r1 =>
  (lenP r1.vs 2).bind fun _ =>
  (nthP r1.vs 0).bind fun p2 =>
  p2.agg?.bind fun l3 =>
  cond (decide (l3.length = 5))
  ((intAt .i64 l3 0).bind fun n4 =>
   (intAt .i64 l3 1).bind fun n5 =>
   (intAt .i64 l3 2).bind fun n6 =>
   (slAt l3 3).bind fun s7 =>
   (slAt l3 4).bind fun s8 =>
   (nthP r1.vs 1).bind fun p9 =>
   p9.sc?.bind fun c10 =>
   (boolAt [c10] 0).bind fun b11 =>
   cond (!b11)
   (some ⟨1, [.sc (.sl ⟨0, 0, 0, 0, true⟩), .sc (.bool false)], r1.H⟩)
   ((C (.fn F.iPlainOrder) [.agg [.int .i64 n4, .int .i64 n5, .int .i64 n6, .sl s7, .sl s8]] r1.H).bind fun r12 =>
    (oneP r12.vs).bind fun p13 =>
    p13.sc?.bind fun c14 =>
    (slAt [c14] 0).bind fun s15 =>
    (C (.fn F.iContract) [.agg [.int .i64 n4, .int .i64 n5, .int .i64 n6, .sl s7, .sl s8], .sc (.sl s15)] r12.H).bind fun r16 =>
    (lenP r16.vs 2).bind fun _ =>
    (nthP r16.vs 0).bind fun p17 =>
    p17.agg?.bind fun l18 =>
    cond (decide (l18.length = 3))
    ((slAt l18 0).bind fun s19 =>
     (slAt l18 1).bind fun s20 =>
     (slAt l18 2).bind fun s21 =>
     (nthP r16.vs 1).bind fun p22 =>
     p22.sc?.bind fun c23 =>
     (boolAt [c23] 0).bind fun b24 =>
     cond (!b24)
     (some ⟨1, [.sc (.sl ⟨0, 0, 0, 0, true⟩), .sc (.bool false)], r16.H⟩)
     (some ⟨1, [.sc (.sl s21), .sc (.bool true)], r16.H⟩))
    (none)))
  (none) := by kernel_rfl
/- loop.example/g03211/impl.intTensorOk -/
theorem e_iintTensorOk_0 (C : Oracle) (x18 : Sl) (x19 x20 : Int) (H : AH) : (procM P T C (.loop F.iintTensorOk 0) [.sc (.sl x18), .sc (.int .i64 x19), .sc (.int .i64 x20)] H).run =
  cond (decide (x20 < x19))
  ((ixA x18 x20 1).bind fun o5 =>
   (rdB H x18.b).bind fun c6 =>
   (intAt .i64 c6 o5).bind fun n7 =>
   cond (decide (n7 < (-9)))
   (some ⟨1, [.sc (.bool false)], H⟩)
   (cond (decide (n7 > 9))
    (some ⟨1, [.sc (.bool false)], H⟩)
    (C (.loop F.iintTensorOk 0) [.sc (.sl x18), .sc (.int .i64 x19), .sc (.int .i64 (IntKind.wrap .i64 (x20 + 1)))] H)))
  (some ⟨2, [], H⟩) := by kernel_rfl
theorem e_iintTensorOk (C : Oracle) (a0_0 a0_1 a0_2 : Sl) (H : AH) : (procM P T C (.fn F.iintTensorOk) [.agg [.sl a0_0, .sl a0_1, .sl a0_2]] H).run =
  (C (.fn F.iTensorSize) [.agg [.sl a0_0, .sl a0_1, .sl a0_2]] H).bind fun r1 =>
  (oneP r1.vs).bind fun p2 =>
  p2.sc?.bind fun c3 =>
  (intAt .i64 [c3] 0).bind fun n4 =>
  cond (n4 == (-1))
  (some ⟨1, [.sc (.bool false)], r1.H⟩)
  (cond ((a0_2.n : Int) != n4)
   (some ⟨1, [.sc (.bool false)], r1.H⟩)
   ((C (.loop F.iintTensorOk 0) [.sc (.sl a0_2), .sc (.int .i64 (a0_2.n : Int)), .sc (.int .i64 0)] r1.H).bind fun r8 =>
    cond (Nat.beq r8.e 1)
    ((nthP r8.vs 0).bind fun p9 =>
     p9.sc?.bind fun c10 =>
     (boolAt [c10] 0).bind fun b11 =>
     some ⟨1, [.sc (.bool b11)], r8.H⟩)
    (cond (Nat.beq r8.e 2)
     (some ⟨1, [.sc (.bool true)], r8.H⟩)
     (none)))) := by kernel_rfl
/- loop.example/g03211/impl.boundOf -/
theorem e_iboundOf_0 (C : Oracle) (x3 : Int) (x9 : Sl) (x10 x11 : Int) (H : AH) : (procM P T C (.loop F.iboundOf 0) [.sc (.int .i64 x3), .sc (.sl x9), .sc (.int .i64 x10), .sc (.int .i64 x11)] H).run =
  cond (decide (x11 < x10))
  ((ixA x9 x11 3).bind fun o1 =>
   (rdB H x9.b).bind fun c2 =>
   (slAt c2 o1).bind fun s3 =>
   (slAt c2 (o1 + 1)).bind fun s4 =>
   (slAt c2 (o1 + 1 + 1)).bind fun s5 =>
   (C (.loop F.iboundOf 1) [.sc (.int .i64 0), .sc (.sl s5), .sc (.int .i64 (s5.n : Int)), .sc (.int .i64 0)] H).bind fun r9 =>
   cond (Nat.beq r9.e 4)
   ((nthP r9.vs 0).bind fun p10 =>
    p10.sc?.bind fun c11 =>
    (intAt .i64 [c11] 0).bind fun n12 =>
    cond (n12 == 0)
    (some ⟨1, [.sc (.int .i64 0)], r9.H⟩)
    (C (.loop F.iboundOf 0) [.sc (.int .i64 (if 100000000000001 < IntKind.wrap .i64 (x3 * n12) then 100000000000001 else IntKind.wrap .i64 (x3 * n12))), .sc (.sl x9), .sc (.int .i64 x10), .sc (.int .i64 (IntKind.wrap .i64 (x11 + 1)))] r9.H))
   (none))
  (some ⟨2, [.sc (.int .i64 x3)], H⟩) := by kernel_rfl
theorem e_iboundOf_1 (C : Oracle) (x6 : Int) (x16 : Sl) (x17 x18 : Int) (H : AH) : (procM P T C (.loop F.iboundOf 1) [.sc (.int .i64 x6), .sc (.sl x16), .sc (.int .i64 x17), .sc (.int .i64 x18)] H).run =
  cond (decide (x18 < x17))
  ((ixA x16 x18 1).bind fun o6 =>
   (rdB H x16.b).bind fun c7 =>
   (intAt .i64 c7 o6).bind fun n8 =>
   C (.loop F.iboundOf 1) [.sc (.int .i64 (IntKind.wrap .i64 (x6 + (if IntKind.wrap .i64 (0 - n8) > n8 then IntKind.wrap .i64 (0 - n8) else n8)))), .sc (.sl x16), .sc (.int .i64 x17), .sc (.int .i64 (IntKind.wrap .i64 (x18 + 1)))] H)
  (some ⟨4, [.sc (.int .i64 x6)], H⟩) := by kernel_rfl
theorem e_iboundOf (C : Oracle) (a0 : Sl) (H : AH) : (procM P T C (.fn F.iboundOf) [.sc (.sl a0)] H).run =
  (C (.loop F.iboundOf 0) [.sc (.int .i64 1), .sc (.sl a0), .sc (.int .i64 (a0.n : Int)), .sc (.int .i64 0)] H).bind fun r13 =>
  cond (Nat.beq r13.e 1)
  ((nthP r13.vs 0).bind fun p14 =>
   p14.sc?.bind fun c15 =>
   (intAt .i64 [c15] 0).bind fun n16 =>
   some ⟨1, [.sc (.int .i64 n16)], r13.H⟩)
  (cond (Nat.beq r13.e 2)
   ((nthP r13.vs 0).bind fun p17 =>
    p17.sc?.bind fun c18 =>
    (intAt .i64 [c18] 0).bind fun n19 =>
    some ⟨1, [.sc (.int .i64 n19)], r13.H⟩)
   (none)) := by kernel_rfl
/- loop.example/g03211/spec.l17New -/
theorem e_sl17New_0 (C : Oracle) (x3b x3o : Nat) (x9 : Sl) (x10 x11 : Int) (H : AH) : (procM P T C (.loop F.sl17New 0) [.sc (.hp x3b x3o), .sc (.sl x9), .sc (.int .i64 x10), .sc (.int .i64 x11)] H).run =
  cond (decide (x11 < x10))
  ((ixA x9 x11 3).bind fun o2 =>
   (rdB H x9.b).bind fun c3 =>
   (slAt c3 o2).bind fun s4 =>
   (slAt c3 (o2 + 1)).bind fun s5 =>
   (slAt c3 (o2 + 1 + 1)).bind fun s6 =>
   (rdB ((reserve H 1).set (H.length + 0) deadB) x3b).bind fun c7 =>
   (slAt c7 (x3o + 0)).bind fun s8 =>
   (newAt (reserve H 1) (H.length + 0) 3 [.sl s4, .sl s5, .sl ⟨0, 0, 0, 0, true⟩]).bind fun h9 =>
   (rng h9.2 h9.1 0 (1 * 3)).bind fun l10 =>
   (appB h9.2 3 72 s8 l10 1).bind fun m11 =>
   (putR m11.2 x3b (x3o + 0) [.sl m11.1]).bind fun H12 =>
   (rdB H12 x3b).bind fun c13 =>
   (slAt c13 (x3o + 1)).bind fun s14 =>
   (newB H12 1 [.bool false]).bind fun h15 =>
   (rng h15.2 h15.1 0 (1 * 1)).bind fun l16 =>
   (appB h15.2 1 1 s14 l16 1).bind fun m17 =>
   (putR m17.2 x3b (x3o + 1) [.sl m17.1]).bind fun H18 =>
   C (.loop F.sl17New 0) [.sc (.hp x3b x3o), .sc (.sl x9), .sc (.int .i64 x10), .sc (.int .i64 (IntKind.wrap .i64 (x11 + 1)))] H18)
  (some ⟨2, [], H⟩) := by kernel_rfl
theorem e_sl17New (C : Oracle) (a0_0 a0_1 a0_2 : Int) (a0_3 a0_4 : Sl) (H : AH) : (procM P T C (.fn F.sl17New) [.agg [.int .i64 a0_0, .int .i64 a0_1, .int .i64 a0_2, .sl a0_3, .sl a0_4]] H).run =
  (newB H 2 [.sl ⟨0, 0, 0, 0, true⟩, .sl ⟨0, 0, 0, 0, true⟩]).bind fun h1 =>
  (C (.loop F.sl17New 0) [.sc (.hp h1.1 0), .sc (.sl a0_3), .sc (.int .i64 (a0_3.n : Int)), .sc (.int .i64 0)] h1.2).bind fun r19 =>
  cond (Nat.beq r19.e 2)
  (some ⟨1, [.sc (.hp h1.1 0)], r19.H⟩)
  (none) := by kernel_rfl
/- loop.example/g03211/spec.l17Step -/
theorem e_sl17Step (C : Oracle) (a0b a0o : Nat) (a1 : Sl) (a2_0 a2_1 : Int) (H : AH) : (procM P T C (.fn F.sl17Step) [.sc (.hp a0b a0o), .sc (.sl a1), .agg [.int .i64 a2_0, .int .i64 a2_1]] H).run =
  (rdB H a0b).bind fun c1 =>
  (slAt c1 (a0o + 0)).bind fun s2 =>
  (ixA s2 a2_0 3).bind fun o3 =>
  (rdB H s2.b).bind fun c4 =>
  (slAt c4 o3).bind fun s5 =>
  (slAt c4 (o3 + 1)).bind fun s6 =>
  (slAt c4 (o3 + 1 + 1)).bind fun s7 =>
  (rdB H a0b).bind fun c8 =>
  (slAt c8 (a0o + 0)).bind fun s9 =>
  (ixA s9 a2_1 3).bind fun o10 =>
  (rdB H s9.b).bind fun c11 =>
  (slAt c11 o10).bind fun s12 =>
  (slAt c11 (o10 + 1)).bind fun s13 =>
  (slAt c11 (o10 + 1 + 1)).bind fun s14 =>
  (C (.fn F.sl08Join) [.agg [.sl s5, .sl s6, .sl s7], .agg [.sl s12, .sl s13, .sl s14]] H).bind fun r15 =>
  (lenP r15.vs 3).bind fun _ =>
  (nthP r15.vs 0).bind fun p16 =>
  p16.sc?.bind fun c17 =>
  (slAt [c17] 0).bind fun s18 =>
  (nthP r15.vs 1).bind fun p19 =>
  p19.sc?.bind fun c20 =>
  (slAt [c20] 0).bind fun s21 =>
  (nthP r15.vs 2).bind fun p22 =>
  p22.sc?.bind fun c23 =>
  (boolAt [c23] 0).bind fun b24 =>
  (C (.fn F.sl17Keep) [.sc (.hp a0b a0o), .sc (.sl a1), .sc (.int .i64 a2_0), .sc (.int .i64 a2_1)] r15.H).bind fun r25 =>
  (oneP r25.vs).bind fun p26 =>
  p26.sc?.bind fun c27 =>
  (slAt [c27] 0).bind fun s28 =>
  (C (.fn F.sl08Keep) [.sc (.sl s18), .sc (.sl s21), .sc (.sl s28)] r25.H).bind fun r29 =>
  (oneP r29.vs).bind fun p30 =>
  p30.agg?.bind fun l31 =>
  cond (decide (l31.length = 3))
  ((slAt l31 0).bind fun s32 =>
   (slAt l31 1).bind fun s33 =>
   (slAt l31 2).bind fun s34 =>
   (rdB r29.H a0b).bind fun c35 =>
   (slAt c35 (a0o + 1)).bind fun s36 =>
   (ixA s36 a2_0 1).bind fun o37 =>
   (putR r29.H s36.b o37 [.bool true]).bind fun H38 =>
   (rdB H38 a0b).bind fun c39 =>
   (slAt c39 (a0o + 1)).bind fun s40 =>
   (ixA s40 a2_1 1).bind fun o41 =>
   (putR H38 s40.b o41 [.bool true]).bind fun H42 =>
   (rdB ((reserve H42 1).set (H42.length + 0) deadB) a0b).bind fun c43 =>
   (slAt c43 (a0o + 0)).bind fun s44 =>
   (newAt (reserve H42 1) (H42.length + 0) 3 [.sl s32, .sl s33, .sl s34]).bind fun h45 =>
   (rng h45.2 h45.1 0 (1 * 3)).bind fun l46 =>
   (appB h45.2 3 72 s44 l46 1).bind fun m47 =>
   (putR m47.2 a0b (a0o + 0) [.sl m47.1]).bind fun H48 =>
   (rdB H48 a0b).bind fun c49 =>
   (slAt c49 (a0o + 1)).bind fun s50 =>
   (newB H48 1 [.bool false]).bind fun h51 =>
   (rng h51.2 h51.1 0 (1 * 1)).bind fun l52 =>
   (appB h51.2 1 1 s50 l52 1).bind fun m53 =>
   (putR m53.2 a0b (a0o + 1) [.sl m53.1]).bind fun H54 =>
   (C (.fn F.sl05Product) [.sc (.sl s21), .sc (.int .i64 1000000000)] H54).bind fun r55 =>
   (oneP r55.vs).bind fun p56 =>
   p56.sc?.bind fun c57 =>
   (intAt .i64 [c57] 0).bind fun n58 =>
   some ⟨1, [.sc (.int .i64 (if n58 < 1000000000 then n58 else 1000000000))], r55.H⟩)
  (none) := by kernel_rfl
/- (*loop.example/g03211/impl.orderState).place -/
theorem e_x__impl_orderState__place_0 (C : Oracle) (x1 : Int) (x10 : Sl) (x11 x12 : Int) (H : AH) : (procM P T C (.loop F.x__impl_orderState__place 0) [.sc (.int .i64 x1), .sc (.sl x10), .sc (.int .i64 x11), .sc (.int .i64 x12)] H).run =
  cond (decide (x12 < x11))
  ((ixA x10 x12 2).bind fun o3 =>
   (rdB H x10.b).bind fun c4 =>
   (intAt .i64 c4 o3).bind fun n5 =>
   (slAt c4 (o3 + 1)).bind fun s6 =>
   cond (n5 == x1)
   (some ⟨1, [.sc (.int .i64 x12)], H⟩)
   (C (.loop F.x__impl_orderState__place 0) [.sc (.int .i64 x1), .sc (.sl x10), .sc (.int .i64 x11), .sc (.int .i64 (IntKind.wrap .i64 (x12 + 1)))] H))
  (some ⟨2, [], H⟩) := by kernel_rfl
theorem e_x__impl_orderState__place (C : Oracle) (a0b a0o : Nat) (a1 : Int) (H : AH) : (procM P T C (.fn F.x__impl_orderState__place) [.sc (.hp a0b a0o), .sc (.int .i64 a1)] H).run =
  (rdB H a0b).bind fun c1 =>
  (slAt c1 (a0o + 101)).bind fun s2 =>
  (C (.loop F.x__impl_orderState__place 0) [.sc (.int .i64 a1), .sc (.sl s2), .sc (.int .i64 (s2.n : Int)), .sc (.int .i64 0)] H).bind fun r7 =>
  cond (Nat.beq r7.e 1)
  ((nthP r7.vs 0).bind fun p8 =>
   p8.sc?.bind fun c9 =>
   (intAt .i64 [c9] 0).bind fun n10 =>
   some ⟨1, [.sc (.int .i64 n10)], r7.H⟩)
  (cond (Nat.beq r7.e 2)
   (some ⟨1, [.sc (.int .i64 (-1))], r7.H⟩)
   (none)) := by kernel_rfl
/- (*loop.example/g03211/impl.orderState).contract -/
theorem e_x__impl_orderState__contract_0 (C : Oracle) (x1 x2 : Int) (x9 x41 : Sl) (x42 x43 : Int) (H : AH) : (procM P T C (.loop F.x__impl_orderState__contract 0) [.sc (.int .i64 x1), .sc (.int .i64 x2), .sc (.sl x9), .sc (.sl x41), .sc (.int .i64 x42), .sc (.int .i64 x43)] H).run =
  cond (decide (x43 < x42))
  ((ixA x41 x43 2).bind fun o19 =>
   (rdB H x41.b).bind fun c20 =>
   (intAt .i64 c20 o19).bind fun n21 =>
   (slAt c20 (o19 + 1)).bind fun s22 =>
   ((cond (x43 != x1)
   (some ⟨0, [.sc (.bool (x43 != x2))], H⟩)
   (some ⟨0, [.sc (.bool false)], H⟩) : Option Out)).bind fun r23 =>
   cond (Nat.beq r23.e 0)
   ((nthP r23.vs 0).bind fun p24 =>
    p24.sc?.bind fun c25 =>
    (boolAt [c25] 0).bind fun b26 =>
    cond b26
    ((newB r23.H 2 [.int .i64 n21, .sl s22]).bind fun h27 =>
     (rng h27.2 h27.1 0 (1 * 2)).bind fun l28 =>
     (appB h27.2 2 32 x9 l28 1).bind fun m29 =>
     C (.loop F.x__impl_orderState__contract 0) [.sc (.int .i64 x1), .sc (.int .i64 x2), .sc (.sl m29.1), .sc (.sl x41), .sc (.int .i64 x42), .sc (.int .i64 (IntKind.wrap .i64 (x43 + 1)))] m29.2)
    (C (.loop F.x__impl_orderState__contract 0) [.sc (.int .i64 x1), .sc (.int .i64 x2), .sc (.sl x9), .sc (.sl x41), .sc (.int .i64 x42), .sc (.int .i64 (IntKind.wrap .i64 (x43 + 1)))] r23.H))
   (none))
  (some ⟨2, [.sc (.sl x9)], H⟩) := by kernel_rfl
theorem e_x__impl_orderState__contract (C : Oracle) (a0b a0o : Nat) (a1 a2 : Int) (H : AH) : (procM P T C (.fn F.x__impl_orderState__contract) [.sc (.hp a0b a0o), .sc (.int .i64 a1), .sc (.int .i64 a2)] H).run =
  (rdB H a0b).bind fun c1 =>
  (slAt c1 (a0o + 101)).bind fun s2 =>
  (ixA s2 a1 2).bind fun o3 =>
  (rdB H s2.b).bind fun c4 =>
  (intAt .i64 c4 (o3 + 0)).bind fun n5 =>
  (rdB H a0b).bind fun c6 =>
  (slAt c6 (a0o + 101)).bind fun s7 =>
  (ixA s7 a2 2).bind fun o8 =>
  (rdB H s7.b).bind fun c9 =>
  (intAt .i64 c9 (o8 + 0)).bind fun n10 =>
  cond (decide (a0b < H.length))
  ((rdB H a0b).bind fun c11 =>
   (intAt .i64 c11 (a0o + 102)).bind fun n12 =>
   (C (.fn F.x__impl_orderState__resultLabels) [.sc (.hp a0b a0o), .sc (.int .i64 a1), .sc (.int .i64 a2)] H).bind fun r13 =>
   (oneP r13.vs).bind fun p14 =>
   p14.sc?.bind fun c15 =>
   (slAt [c15] 0).bind fun s16 =>
   cond (decide (r13.H.take (H.length) = H.take (H.length)))
   ((rdB r13.H a0b).bind fun c17 =>
    (slAt c17 (a0o + 101)).bind fun s18 =>
    (C (.loop F.x__impl_orderState__contract 0) [.sc (.int .i64 a1), .sc (.int .i64 a2), .sc (.sl ⟨0, 0, 0, 0, true⟩), .sc (.sl s18), .sc (.int .i64 (s18.n : Int)), .sc (.int .i64 0)] r13.H).bind fun r30 =>
    cond (Nat.beq r30.e 2)
    ((nthP r30.vs 0).bind fun p31 =>
     p31.sc?.bind fun c32 =>
     (slAt [c32] 0).bind fun s33 =>
     (newB r30.H 2 [.int .i64 n12, .sl s16]).bind fun h34 =>
     (rng h34.2 h34.1 0 (1 * 2)).bind fun l35 =>
     (appB h34.2 2 32 s33 l35 1).bind fun m36 =>
     (putR m36.2 a0b (a0o + 101) [.sl m36.1]).bind fun H37 =>
     (rdB H37 a0b).bind fun c38 =>
     (intAt .i64 c38 (a0o + 102)).bind fun n39 =>
     (putR H37 a0b (a0o + 102) [.int .i64 (IntKind.wrap .i64 (n39 + 1))]).bind fun H40 =>
     some ⟨1, [.agg [.int .i64 n5, .int .i64 n10]], H40⟩)
    (none))
   (none))
  (none) := by kernel_rfl
/- loop.example/g03211/spec.RingOk -/
theorem e_sRingOk (C : Oracle) (a0_0 a0_1 a0_2 : Int) (H : AH) : (procM P T C (.fn F.sRingOk) [.agg [.int .i64 a0_0, .int .i64 a0_1, .int .i64 a0_2]] H).run =
  cond (a0_0 == 1)
  (cond (a0_1 == 0)
   (some ⟨1, [.sc (.bool (a0_2 == 0))], H⟩)
   (some ⟨1, [.sc (.bool false)], H⟩))
  (cond (a0_0 == 2)
   ((C (.fn F.sIsPrime) [.sc (.int .i64 a0_1)] H).bind fun r1 =>
    (oneP r1.vs).bind fun p2 =>
    p2.sc?.bind fun c3 =>
    (boolAt [c3] 0).bind fun b4 =>
    cond b4
    (some ⟨1, [.sc (.bool (a0_2 == 0))], r1.H⟩)
    (some ⟨1, [.sc (.bool false)], r1.H⟩))
   (((cond (a0_0 == 3)
   (some ⟨0, [.sc (.bool (a0_0 == 3))], H⟩)
   (cond (a0_0 == 4)
    (some ⟨0, [.sc (.bool (a0_0 == 4))], H⟩)
    (some ⟨0, [.sc (.bool (a0_0 == 5))], H⟩)) : Option Out)).bind fun r5 =>
    cond (Nat.beq r5.e 0)
    ((nthP r5.vs 0).bind fun p6 =>
     p6.sc?.bind fun c7 =>
     (boolAt [c7] 0).bind fun b8 =>
     cond b8
     ((C (.fn F.sl01In) [.sc (.int .i64 a0_1), .sc (.int .i64 1), .sc (.int .i64 1000000)] r5.H).bind fun r9 =>
      (oneP r9.vs).bind fun p10 =>
      p10.sc?.bind fun c11 =>
      (boolAt [c11] 0).bind fun b12 =>
      cond b12
      (some ⟨1, [.sc (.bool (a0_2 == 0))], r9.H⟩)
      (some ⟨1, [.sc (.bool false)], r9.H⟩))
     (cond (a0_0 == 6)
      (cond (a0_1 == 0)
       ((C (.fn F.sl01In) [.sc (.int .i64 a0_2), .sc (.int .i64 1), .sc (.int .i64 20)] r5.H).bind fun r13 =>
        (oneP r13.vs).bind fun p14 =>
        p14.sc?.bind fun c15 =>
        (boolAt [c15] 0).bind fun b16 =>
        some ⟨1, [.sc (.bool b16)], r13.H⟩)
       (some ⟨1, [.sc (.bool false)], r5.H⟩))
      (cond (a0_0 == 7)
       ((C (.fn F.sIsPrime) [.sc (.int .i64 a0_1)] r5.H).bind fun r17 =>
        (oneP r17.vs).bind fun p18 =>
        p18.sc?.bind fun c19 =>
        (boolAt [c19] 0).bind fun b20 =>
        cond b20
        ((C (.fn F.sl01In) [.sc (.int .i64 a0_2), .sc (.int .i64 1), .sc (.int .i64 6)] r17.H).bind fun r21 =>
         (oneP r21.vs).bind fun p22 =>
         p22.sc?.bind fun c23 =>
         (boolAt [c23] 0).bind fun b24 =>
         some ⟨1, [.sc (.bool b24)], r21.H⟩)
        (some ⟨1, [.sc (.bool false)], r17.H⟩))
       (cond (a0_0 == 8)
        ((C (.fn F.sIsPrime) [.sc (.int .i64 a0_1)] r5.H).bind fun r25 =>
         (oneP r25.vs).bind fun p26 =>
         p26.sc?.bind fun c27 =>
         (boolAt [c27] 0).bind fun b28 =>
         cond b28
         (cond (decide (a0_1 > 2))
          (some ⟨1, [.sc (.bool (a0_2 == 0))], r25.H⟩)
          (some ⟨1, [.sc (.bool false)], r25.H⟩))
         (some ⟨1, [.sc (.bool false)], r25.H⟩))
        (some ⟨1, [.sc (.bool false)], r5.H⟩)))))
    (none))) := by kernel_rfl
/- loop.example/g03211/spec.TensorOk -/
theorem e_sTensorOk_0 (C : Oracle) (x28 : Sl) (x29 x30 y2_0 y2_1 y2_2 : Int) (H : AH) : (procM P T C (.loop F.sTensorOk 0) [.sc (.sl x28), .sc (.int .i64 x29), .sc (.int .i64 x30), .agg [.int .i64 y2_0, .int .i64 y2_1, .int .i64 y2_2]] H).run =
  cond (decide (x30 < x29))
  ((ixA x28 x30 1).bind fun o13 =>
   (rdB H x28.b).bind fun c14 =>
   (intAt .i64 c14 o13).bind fun n15 =>
   (C (.fn F.sl02Top) [.agg [.int .i64 y2_0, .int .i64 y2_1, .int .i64 y2_2]] H).bind fun r16 =>
   (oneP r16.vs).bind fun p17 =>
   p17.sc?.bind fun c18 =>
   (intAt .i64 [c18] 0).bind fun n19 =>
   (C (.fn F.sl01In) [.sc (.int .i64 n15), .sc (.int .i64 0), .sc (.int .i64 n19)] r16.H).bind fun r20 =>
   (oneP r20.vs).bind fun p21 =>
   p21.sc?.bind fun c22 =>
   (boolAt [c22] 0).bind fun b23 =>
   cond (!b23)
   (some ⟨1, [.sc (.bool false)], r20.H⟩)
   (C (.loop F.sTensorOk 0) [.sc (.sl x28), .sc (.int .i64 x29), .sc (.int .i64 (IntKind.wrap .i64 (x30 + 1))), .agg [.int .i64 y2_0, .int .i64 y2_1, .int .i64 y2_2]] r20.H))
  (some ⟨2, [], H⟩) := by kernel_rfl
theorem e_sTensorOk (C : Oracle) (a0_0 a0_1 a0_2 : Int) (a1_0 a1_1 a1_2 : Sl) (H : AH) : (procM P T C (.fn F.sTensorOk) [.agg [.int .i64 a0_0, .int .i64 a0_1, .int .i64 a0_2], .agg [.sl a1_0, .sl a1_1, .sl a1_2]] H).run =
  (C (.fn F.sTensorSize) [.agg [.sl a1_0, .sl a1_1, .sl a1_2]] H).bind fun r1 =>
  (oneP r1.vs).bind fun p2 =>
  p2.sc?.bind fun c3 =>
  (intAt .i64 [c3] 0).bind fun n4 =>
  (C (.fn F.sRingOk) [.agg [.int .i64 a0_0, .int .i64 a0_1, .int .i64 a0_2]] r1.H).bind fun r5 =>
  (oneP r5.vs).bind fun p6 =>
  p6.sc?.bind fun c7 =>
  (boolAt [c7] 0).bind fun b8 =>
  cond (!b8)
  (some ⟨1, [.sc (.bool false)], r5.H⟩)
  (cond (decide (n4 < 0))
   (some ⟨1, [.sc (.bool false)], r5.H⟩)
   ((C (.fn F.sl02Width) [.agg [.int .i64 a0_0, .int .i64 a0_1, .int .i64 a0_2]] r5.H).bind fun r9 =>
    (oneP r9.vs).bind fun p10 =>
    p10.sc?.bind fun c11 =>
    (intAt .i64 [c11] 0).bind fun n12 =>
    cond ((a1_2.n : Int) != (IntKind.wrap .i64 (n4 * n12)))
    (some ⟨1, [.sc (.bool false)], r9.H⟩)
    ((C (.loop F.sTensorOk 0) [.sc (.sl a1_2), .sc (.int .i64 (a1_2.n : Int)), .sc (.int .i64 0), .agg [.int .i64 a0_0, .int .i64 a0_1, .int .i64 a0_2]] r9.H).bind fun r24 =>
     cond (Nat.beq r24.e 1)
     ((nthP r24.vs 0).bind fun p25 =>
      p25.sc?.bind fun c26 =>
      (boolAt [c26] 0).bind fun b27 =>
      some ⟨1, [.sc (.bool b27)], r24.H⟩)
     (cond (Nat.beq r24.e 2)
      (some ⟨1, [.sc (.bool true)], r24.H⟩)
      (none))))) := by kernel_rfl
/- loop.example/g03211/spec.l05Copy -/
theorem e_sl05Copy (C : Oracle) (a0_0 a0_1 a0_2 : Sl) (H : AH) : (procM P T C (.fn F.sl05Copy) [.agg [.sl a0_0, .sl a0_1, .sl a0_2]] H).run =
  (C (.fn F.sl05Ints) [.sc (.sl a0_0)] H).bind fun r1 =>
  (oneP r1.vs).bind fun p2 =>
  p2.sc?.bind fun c3 =>
  (slAt [c3] 0).bind fun s4 =>
  (C (.fn F.sl05Ints) [.sc (.sl a0_1)] r1.H).bind fun r5 =>
  (oneP r5.vs).bind fun p6 =>
  p6.sc?.bind fun c7 =>
  (slAt [c7] 0).bind fun s8 =>
  (C (.fn F.sl05Ints) [.sc (.sl a0_2)] r5.H).bind fun r9 =>
  (oneP r9.vs).bind fun p10 =>
  p10.sc?.bind fun c11 =>
  (slAt [c11] 0).bind fun s12 =>
  some ⟨1, [.agg [.sl s4, .sl s8, .sl s12]], r9.H⟩ := by kernel_rfl
/- loop.example/g03211/impl.RingOk -/
theorem e_iRingOk (C : Oracle) (a0_0 a0_1 a0_2 : Int) (H : AH) : (procM P T C (.fn F.iRingOk) [.agg [.int .i64 a0_0, .int .i64 a0_1, .int .i64 a0_2]] H).run =
  cond (a0_0 == 1)
  (cond (a0_1 == 0)
   (some ⟨1, [.sc (.bool (a0_2 == 0))], H⟩)
   (some ⟨1, [.sc (.bool false)], H⟩))
  (cond (a0_0 == 2)
   ((C (.fn F.iIsPrime) [.sc (.int .i64 a0_1)] H).bind fun r1 =>
    (oneP r1.vs).bind fun p2 =>
    p2.sc?.bind fun c3 =>
    (boolAt [c3] 0).bind fun b4 =>
    cond b4
    (some ⟨1, [.sc (.bool (a0_2 == 0))], r1.H⟩)
    (some ⟨1, [.sc (.bool false)], r1.H⟩))
   (((cond (a0_0 == 3)
   (some ⟨0, [.sc (.bool (a0_0 == 3))], H⟩)
   (cond (a0_0 == 4)
    (some ⟨0, [.sc (.bool (a0_0 == 4))], H⟩)
    (some ⟨0, [.sc (.bool (a0_0 == 5))], H⟩)) : Option Out)).bind fun r5 =>
    cond (Nat.beq r5.e 0)
    ((nthP r5.vs 0).bind fun p6 =>
     p6.sc?.bind fun c7 =>
     (boolAt [c7] 0).bind fun b8 =>
     cond b8
     (cond (decide (a0_1 ≥ 1))
      (cond (decide (a0_1 ≤ 1000000))
       (some ⟨1, [.sc (.bool (a0_2 == 0))], r5.H⟩)
       (some ⟨1, [.sc (.bool false)], r5.H⟩))
      (some ⟨1, [.sc (.bool false)], r5.H⟩))
     (cond (a0_0 == 6)
      (cond (a0_1 == 0)
       (cond (decide (a0_2 ≥ 1))
        (some ⟨1, [.sc (.bool (decide (a0_2 ≤ 20)))], r5.H⟩)
        (some ⟨1, [.sc (.bool false)], r5.H⟩))
       (some ⟨1, [.sc (.bool false)], r5.H⟩))
      (cond (a0_0 == 7)
       ((C (.fn F.iIsPrime) [.sc (.int .i64 a0_1)] r5.H).bind fun r9 =>
        (oneP r9.vs).bind fun p10 =>
        p10.sc?.bind fun c11 =>
        (boolAt [c11] 0).bind fun b12 =>
        cond b12
        (cond (decide (a0_2 ≥ 1))
         (some ⟨1, [.sc (.bool (decide (a0_2 ≤ 6)))], r9.H⟩)
         (some ⟨1, [.sc (.bool false)], r9.H⟩))
        (some ⟨1, [.sc (.bool false)], r9.H⟩))
       (cond (a0_0 == 8)
        ((C (.fn F.iIsPrime) [.sc (.int .i64 a0_1)] r5.H).bind fun r13 =>
         (oneP r13.vs).bind fun p14 =>
         p14.sc?.bind fun c15 =>
         (boolAt [c15] 0).bind fun b16 =>
         cond b16
         (cond (a0_1 != 2)
          (some ⟨1, [.sc (.bool (a0_2 == 0))], r13.H⟩)
          (some ⟨1, [.sc (.bool false)], r13.H⟩))
         (some ⟨1, [.sc (.bool false)], r13.H⟩))
        (some ⟨1, [.sc (.bool false)], r5.H⟩)))))
    (none))) := by kernel_rfl
/- loop.example/g03211/impl.TensorOk -/
theorem e_iTensorOk (C : Oracle) (a0_0 a0_1 a0_2 : Int) (a1_0 a1_1 a1_2 : Sl) (H : AH) : (procM P T C (.fn F.iTensorOk) [.agg [.int .i64 a0_0, .int .i64 a0_1, .int .i64 a0_2], .agg [.sl a1_0, .sl a1_1, .sl a1_2]] H).run =
  (C (.fn F.iRingOk) [.agg [.int .i64 a0_0, .int .i64 a0_1, .int .i64 a0_2]] H).bind fun r1 =>
  (oneP r1.vs).bind fun p2 =>
  p2.sc?.bind fun c3 =>
  (boolAt [c3] 0).bind fun b4 =>
  cond (!b4)
  (some ⟨1, [.sc (.bool false)], r1.H⟩)
  ((C (.fn F.iTensorSize) [.agg [.sl a1_0, .sl a1_1, .sl a1_2]] r1.H).bind fun r5 =>
   (oneP r5.vs).bind fun p6 =>
   p6.sc?.bind fun c7 =>
   (intAt .i64 [c7] 0).bind fun n8 =>
   cond (n8 != (-1))
   ((C (.fn F.irawWidth) [.agg [.int .i64 a0_0, .int .i64 a0_1, .int .i64 a0_2]] r5.H).bind fun r9 =>
    (oneP r9.vs).bind fun p10 =>
    p10.sc?.bind fun c11 =>
    (intAt .i64 [c11] 0).bind fun n12 =>
    cond ((a1_2.n : Int) == (IntKind.wrap .i64 (n8 * n12)))
    ((C (.fn F.iinRing) [.agg [.int .i64 a0_0, .int .i64 a0_1, .int .i64 a0_2], .sc (.sl a1_2)] r9.H).bind fun r13 =>
     (oneP r13.vs).bind fun p14 =>
     p14.sc?.bind fun c15 =>
     (boolAt [c15] 0).bind fun b16 =>
     some ⟨1, [.sc (.bool b16)], r13.H⟩)
    (some ⟨1, [.sc (.bool false)], r9.H⟩))
   (some ⟨1, [.sc (.bool false)], r5.H⟩)) := by kernel_rfl
/- loop.example/g03211/impl.TensorSize -/
theorem e_iTensorSize_0 (C : Oracle) (x3 : Int) (x21 : Sl) (x22 x23 : Int) (y1_0 y1_1 y1_2 : Sl) (H : AH) : (procM P T C (.loop F.iTensorSize 0) [.sc (.int .i64 x3), .sc (.sl x21), .sc (.int .i64 x22), .sc (.int .i64 x23), .agg [.sl y1_0, .sl y1_1, .sl y1_2]] H).run =
  cond (decide (x23 < x22))
  ((ixA x21 x23 1).bind fun o1 =>
   (rdB H x21.b).bind fun c2 =>
   (intAt .i64 c2 o1).bind fun n3 =>
   cond (decide (n3 < 0))
   (some ⟨1, [.sc (.int .i64 (-1))], H⟩)
   (cond (decide (n3 > 99))
    (some ⟨1, [.sc (.int .i64 (-1))], H⟩)
    ((slB y1_0 none (some x23) none 1).bind fun s4 =>
     (C (.fn F.ihasInt) [.sc (.sl s4), .sc (.int .i64 n3)] H).bind fun r5 =>
     (oneP r5.vs).bind fun p6 =>
     p6.sc?.bind fun c7 =>
     (boolAt [c7] 0).bind fun b8 =>
     cond b8
     (some ⟨1, [.sc (.int .i64 (-1))], r5.H⟩)
     ((ixA y1_1 x23 1).bind fun o9 =>
      (rdB r5.H y1_1.b).bind fun c10 =>
      (intAt .i64 c10 o9).bind fun n11 =>
      cond (decide (n11 < 1))
      (some ⟨1, [.sc (.int .i64 (-1))], r5.H⟩)
      (cond (decide (n11 > 8))
       (some ⟨1, [.sc (.int .i64 (-1))], r5.H⟩)
       (cond (decide ((IntKind.wrap .i64 (x3 * n11)) > 4096))
        (some ⟨1, [.sc (.int .i64 (-1))], r5.H⟩)
        (C (.loop F.iTensorSize 0) [.sc (.int .i64 (IntKind.wrap .i64 (x3 * n11))), .sc (.sl x21), .sc (.int .i64 x22), .sc (.int .i64 (IntKind.wrap .i64 (x23 + 1))), .agg [.sl y1_0, .sl y1_1, .sl y1_2]] r5.H)))))))
  (some ⟨2, [.sc (.int .i64 x3)], H⟩) := by kernel_rfl
theorem e_iTensorSize (C : Oracle) (a0_0 a0_1 a0_2 : Sl) (H : AH) : (procM P T C (.fn F.iTensorSize) [.agg [.sl a0_0, .sl a0_1, .sl a0_2]] H).run =
  cond (decide ((a0_0.n : Int) > 12))
  (some ⟨1, [.sc (.int .i64 (-1))], H⟩)
  (cond ((a0_0.n : Int) != (a0_1.n : Int))
   (some ⟨1, [.sc (.int .i64 (-1))], H⟩)
   ((C (.loop F.iTensorSize 0) [.sc (.int .i64 1), .sc (.sl a0_0), .sc (.int .i64 (a0_0.n : Int)), .sc (.int .i64 0), .agg [.sl a0_0, .sl a0_1, .sl a0_2]] H).bind fun r12 =>
    cond (Nat.beq r12.e 1)
    ((nthP r12.vs 0).bind fun p13 =>
     p13.sc?.bind fun c14 =>
     (intAt .i64 [c14] 0).bind fun n15 =>
     some ⟨1, [.sc (.int .i64 n15)], r12.H⟩)
    (cond (Nat.beq r12.e 2)
     ((nthP r12.vs 0).bind fun p16 =>
      p16.sc?.bind fun c17 =>
      (intAt .i64 [c17] 0).bind fun n18 =>
      some ⟨1, [.sc (.int .i64 n18)], r12.H⟩)
     (none)))) := by kernel_rfl
/- loop.example/g03211/impl.joinLabels -/
theorem e_ijoinLabels_0 (C : Oracle) (x0 x5 x10 : Sl) (x11 x12 : Int) (H : AH) : (procM P T C (.loop F.ijoinLabels 0) [.sc (.sl x0), .sc (.sl x5), .sc (.sl x10), .sc (.int .i64 x11), .sc (.int .i64 x12)] H).run =
  cond (decide (x12 < x11))
  ((ixA x10 x12 1).bind fun o5 =>
   (rdB H x10.b).bind fun c6 =>
   (intAt .i64 c6 o5).bind fun n7 =>
   (C (.fn F.ihasInt) [.sc (.sl x0), .sc (.int .i64 n7)] H).bind fun r8 =>
   (oneP r8.vs).bind fun p9 =>
   p9.sc?.bind fun c10 =>
   (boolAt [c10] 0).bind fun b11 =>
   cond (!b11)
   ((newB r8.H 1 [.int .i64 n7]).bind fun h12 =>
    (rng h12.2 h12.1 0 (1 * 1)).bind fun l13 =>
    (appB h12.2 1 8 x5 l13 1).bind fun m14 =>
    C (.loop F.ijoinLabels 0) [.sc (.sl x0), .sc (.sl m14.1), .sc (.sl x10), .sc (.int .i64 x11), .sc (.int .i64 (IntKind.wrap .i64 (x12 + 1)))] m14.2)
   (C (.loop F.ijoinLabels 0) [.sc (.sl x0), .sc (.sl x5), .sc (.sl x10), .sc (.int .i64 x11), .sc (.int .i64 (IntKind.wrap .i64 (x12 + 1)))] r8.H))
  (some ⟨2, [.sc (.sl x5)], H⟩) := by kernel_rfl
theorem e_ijoinLabels (C : Oracle) (a0 a1 : Sl) (H : AH) : (procM P T C (.fn F.ijoinLabels) [.sc (.sl a0), .sc (.sl a1)] H).run =
  (C (.fn F.icopyInts) [.sc (.sl a0)] H).bind fun r1 =>
  (oneP r1.vs).bind fun p2 =>
  p2.sc?.bind fun c3 =>
  (slAt [c3] 0).bind fun s4 =>
  (C (.loop F.ijoinLabels 0) [.sc (.sl a0), .sc (.sl s4), .sc (.sl a1), .sc (.int .i64 (a1.n : Int)), .sc (.int .i64 0)] r1.H).bind fun r15 =>
  cond (Nat.beq r15.e 2)
  ((nthP r15.vs 0).bind fun p16 =>
   p16.sc?.bind fun c17 =>
   (slAt [c17] 0).bind fun s18 =>
   some ⟨1, [.sc (.sl s18)], r15.H⟩)
  (none) := by kernel_rfl
/- loop.example/g03211/impl.copyTensor -/
theorem e_icopyTensor (C : Oracle) (a0_0 a0_1 a0_2 : Sl) (H : AH) : (procM P T C (.fn F.icopyTensor) [.agg [.sl a0_0, .sl a0_1, .sl a0_2]] H).run =
  (C (.fn F.icopyInts) [.sc (.sl a0_0)] H).bind fun r1 =>
  (oneP r1.vs).bind fun p2 =>
  p2.sc?.bind fun c3 =>
  (slAt [c3] 0).bind fun s4 =>
  (C (.fn F.icopyInts) [.sc (.sl a0_1)] r1.H).bind fun r5 =>
  (oneP r5.vs).bind fun p6 =>
  p6.sc?.bind fun c7 =>
  (slAt [c7] 0).bind fun s8 =>
  (C (.fn F.icopyInts) [.sc (.sl a0_2)] r5.H).bind fun r9 =>
  (oneP r9.vs).bind fun p10 =>
  p10.sc?.bind fun c11 =>
  (slAt [c11] 0).bind fun s12 =>
  some ⟨1, [.agg [.sl s4, .sl s8, .sl s12]], r9.H⟩ := by kernel_rfl
/- loop.example/g03211/impl.axisOf -/
theorem e_iaxisOf_0 (C : Oracle) (x1 : Int) (x8 : Sl) (x9 x10 : Int) (H : AH) : (procM P T C (.loop F.iaxisOf 0) [.sc (.int .i64 x1), .sc (.sl x8), .sc (.int .i64 x9), .sc (.int .i64 x10)] H).run =
  cond (decide (x10 < x9))
  ((ixA x8 x10 1).bind fun o1 =>
   (rdB H x8.b).bind fun c2 =>
   (intAt .i64 c2 o1).bind fun n3 =>
   cond (n3 == x1)
   (some ⟨1, [.sc (.int .i64 x10)], H⟩)
   (C (.loop F.iaxisOf 0) [.sc (.int .i64 x1), .sc (.sl x8), .sc (.int .i64 x9), .sc (.int .i64 (IntKind.wrap .i64 (x10 + 1)))] H))
  (some ⟨2, [], H⟩) := by kernel_rfl
theorem e_iaxisOf (C : Oracle) (a0_0 a0_1 a0_2 : Sl) (a1 : Int) (H : AH) : (procM P T C (.fn F.iaxisOf) [.agg [.sl a0_0, .sl a0_1, .sl a0_2], .sc (.int .i64 a1)] H).run =
  (C (.loop F.iaxisOf 0) [.sc (.int .i64 a1), .sc (.sl a0_0), .sc (.int .i64 (a0_0.n : Int)), .sc (.int .i64 0)] H).bind fun r4 =>
  cond (Nat.beq r4.e 1)
  ((nthP r4.vs 0).bind fun p5 =>
   p5.sc?.bind fun c6 =>
   (intAt .i64 [c6] 0).bind fun n7 =>
   some ⟨1, [.sc (.int .i64 n7)], r4.H⟩)
  (cond (Nat.beq r4.e 2)
   (some ⟨1, [.sc (.int .i64 (-1))], r4.H⟩)
   (none)) := by kernel_rfl
/- loop.example/g03211/spec.l05Axes -/
theorem e_sl05Axes_0 (C : Oracle) (x0 x1 x17 : Sl) (x18 x19 : Int) (H : AH) : (procM P T C (.loop F.sl05Axes 0) [.sc (.sl x0), .sc (.sl x1), .sc (.sl x17), .sc (.int .i64 x18), .sc (.int .i64 x19)] H).run =
  cond (decide (x19 < x18))
  ((ixA x17 x19 1).bind fun o1 =>
   (rdB H x17.b).bind fun c2 =>
   (intAt .i64 c2 o1).bind fun n3 =>
   (C (.fn F.sl01In) [.sc (.int .i64 n3), .sc (.int .i64 0), .sc (.int .i64 99)] H).bind fun r4 =>
   (oneP r4.vs).bind fun p5 =>
   p5.sc?.bind fun c6 =>
   (boolAt [c6] 0).bind fun b7 =>
   cond (!b7)
   (some ⟨1, [.sc (.bool false)], r4.H⟩)
   ((ixA x1 x19 1).bind fun o8 =>
    (rdB r4.H x1.b).bind fun c9 =>
    (intAt .i64 c9 o8).bind fun n10 =>
    (C (.fn F.sl01In) [.sc (.int .i64 n10), .sc (.int .i64 1), .sc (.int .i64 8)] r4.H).bind fun r11 =>
    (oneP r11.vs).bind fun p12 =>
    p12.sc?.bind fun c13 =>
    (boolAt [c13] 0).bind fun b14 =>
    cond (!b14)
    (some ⟨1, [.sc (.bool false)], r11.H⟩)
    ((slB x0 none (some x19) none 1).bind fun s15 =>
     (C (.fn F.sl05Find) [.sc (.sl s15), .sc (.int .i64 n3)] r11.H).bind fun r16 =>
     (oneP r16.vs).bind fun p17 =>
     p17.sc?.bind fun c18 =>
     (intAt .i64 [c18] 0).bind fun n19 =>
     cond (decide (n19 ≥ 0))
     (some ⟨1, [.sc (.bool false)], r16.H⟩)
     (C (.loop F.sl05Axes 0) [.sc (.sl x0), .sc (.sl x1), .sc (.sl x17), .sc (.int .i64 x18), .sc (.int .i64 (IntKind.wrap .i64 (x19 + 1)))] r16.H))))
  (some ⟨2, [], H⟩) := by kernel_rfl
theorem e_sl05Axes (C : Oracle) (a0 a1 : Sl) (H : AH) : (procM P T C (.fn F.sl05Axes) [.sc (.sl a0), .sc (.sl a1)] H).run =
  cond (decide ((a0.n : Int) > 12))
  (some ⟨1, [.sc (.bool false)], H⟩)
  (cond ((a0.n : Int) != (a1.n : Int))
   (some ⟨1, [.sc (.bool false)], H⟩)
   ((C (.loop F.sl05Axes 0) [.sc (.sl a0), .sc (.sl a1), .sc (.sl a0), .sc (.int .i64 (a0.n : Int)), .sc (.int .i64 0)] H).bind fun r20 =>
    cond (Nat.beq r20.e 1)
    ((nthP r20.vs 0).bind fun p21 =>
     p21.sc?.bind fun c22 =>
     (boolAt [c22] 0).bind fun b23 =>
     some ⟨1, [.sc (.bool b23)], r20.H⟩)
    (cond (Nat.beq r20.e 2)
     (some ⟨1, [.sc (.bool true)], r20.H⟩)
     (none)))) := by kernel_rfl
/- loop.example/g03211/spec.Contract -/
theorem e_sContract (C : Oracle) (a0_0 a0_1 a0_2 : Int) (a0_3 a0_4 a1 : Sl) (H : AH) : (procM P T C (.fn F.sContract) [.agg [.int .i64 a0_0, .int .i64 a0_1, .int .i64 a0_2, .sl a0_3, .sl a0_4], .sc (.sl a1)] H).run =
  (C (.fn F.sOrderOk) [.agg [.int .i64 a0_0, .int .i64 a0_1, .int .i64 a0_2, .sl a0_3, .sl a0_4], .sc (.sl a1)] H).bind fun r1 =>
  (oneP r1.vs).bind fun p2 =>
  p2.sc?.bind fun c3 =>
  (boolAt [c3] 0).bind fun b4 =>
  cond (!b4)
  (some ⟨1, [.agg [.sl ⟨0, 0, 0, 0, true⟩, .sl ⟨0, 0, 0, 0, true⟩, .sl ⟨0, 0, 0, 0, true⟩], .sc (.bool false)], r1.H⟩)
  (cond ((a0_3.n : Int) == 0)
   ((C (.fn F.sl02One) [.agg [.int .i64 a0_0, .int .i64 a0_1, .int .i64 a0_2]] r1.H).bind fun r5 =>
    (oneP r5.vs).bind fun p6 =>
    p6.sc?.bind fun c7 =>
    (slAt [c7] 0).bind fun s8 =>
    some ⟨1, [.agg [.sl ⟨0, 0, 0, 0, true⟩, .sl ⟨0, 0, 0, 0, true⟩, .sl s8], .sc (.bool true)], r5.H⟩)
   ((C (.fn F.sl18Run) [.agg [.int .i64 a0_0, .int .i64 a0_1, .int .i64 a0_2, .sl a0_3, .sl a0_4], .sc (.sl a1), .sc (.int .i64 (a1.n : Int))] r1.H).bind fun r9 =>
    (lenP r9.vs 3).bind fun _ =>
    (nthP r9.vs 0).bind fun p10 =>
    p10.sc?.bind fun c11 =>
    (slAt [c11] 0).bind fun s12 =>
    (nthP r9.vs 1).bind fun p13 =>
    p13.sc?.bind fun c14 =>
    (slAt [c14] 0).bind fun s15 =>
    (nthP r9.vs 2).bind fun p16 =>
    p16.sc?.bind fun c17 =>
    (boolAt [c17] 0).bind fun b18 =>
    cond (!b18)
    (some ⟨1, [.agg [.sl ⟨0, 0, 0, 0, true⟩, .sl ⟨0, 0, 0, 0, true⟩, .sl ⟨0, 0, 0, 0, true⟩], .sc (.bool false)], r9.H⟩)
    ((ixA s12 (IntKind.wrap .i64 ((s12.n : Int) - 1)) 3).bind fun o19 =>
     (rdB r9.H s12.b).bind fun c20 =>
     (slAt c20 o19).bind fun s21 =>
     (slAt c20 (o19 + 1)).bind fun s22 =>
     (slAt c20 (o19 + 1 + 1)).bind fun s23 =>
     (C (.fn F.sl18Finish) [.agg [.int .i64 a0_0, .int .i64 a0_1, .int .i64 a0_2, .sl a0_3, .sl a0_4], .agg [.sl s21, .sl s22, .sl s23]] r9.H).bind fun r24 =>
     (oneP r24.vs).bind fun p25 =>
     p25.agg?.bind fun l26 =>
     cond (decide (l26.length = 3))
     ((slAt l26 0).bind fun s27 =>
      (slAt l26 1).bind fun s28 =>
      (slAt l26 2).bind fun s29 =>
      some ⟨1, [.agg [.sl s27, .sl s28, .sl s29], .sc (.bool true)], r24.H⟩)
     (none)))) := by kernel_rfl
/- loop.example/g03211/spec.l17Plain -/
theorem e_sl17Plain_0 (C : Oracle) (x0 : Int) (x3 : Sl) (x4 : Int) (H : AH) : (procM P T C (.loop F.sl17Plain 0) [.sc (.int .i64 x0), .sc (.sl x3), .sc (.int .i64 x4)] H).run =
  cond (decide (x4 < x0))
  (cond (x4 == 1)
   ((newB H 2 [.int .i64 0, .int .i64 1]).bind fun h2 =>
    (rng h2.2 h2.1 0 (1 * 2)).bind fun l3 =>
    (appB h2.2 2 16 x3 l3 1).bind fun m4 =>
    C (.loop F.sl17Plain 0) [.sc (.int .i64 x0), .sc (.sl m4.1), .sc (.int .i64 (IntKind.wrap .i64 (x4 + 1)))] m4.2)
   ((newB H 2 [.int .i64 x4, .int .i64 (IntKind.wrap .i64 ((IntKind.wrap .i64 (x0 + x4)) - 2))]).bind fun h5 =>
    (rng h5.2 h5.1 0 (1 * 2)).bind fun l6 =>
    (appB h5.2 2 16 x3 l6 1).bind fun m7 =>
    C (.loop F.sl17Plain 0) [.sc (.int .i64 x0), .sc (.sl m7.1), .sc (.int .i64 (IntKind.wrap .i64 (x4 + 1)))] m7.2))
  (some ⟨2, [.sc (.sl x3)], H⟩) := by kernel_rfl
theorem e_sl17Plain (C : Oracle) (a0 : Int) (H : AH) : (procM P T C (.fn F.sl17Plain) [.sc (.int .i64 a0)] H).run =
  (newB H 2 []).bind fun h1 =>
  (C (.loop F.sl17Plain 0) [.sc (.int .i64 a0), .sc (.sl ⟨h1.1, 0, 0, 0, true⟩), .sc (.int .i64 1)] h1.2).bind fun r8 =>
  cond (Nat.beq r8.e 2)
  ((nthP r8.vs 0).bind fun p9 =>
   p9.sc?.bind fun c10 =>
   (slAt [c10] 0).bind fun s11 =>
   some ⟨1, [.sc (.sl s11)], r8.H⟩)
  (none) := by kernel_rfl
/- loop.example/g03211/impl.OpenNetwork -/
theorem e_iOpenNetwork (C : Oracle) (a0_0 a0_1 a0_2 : Int) (a0_3 a0_4 a1 : Sl) (H : AH) : (procM P T C (.fn F.iOpenNetwork) [.agg [.int .i64 a0_0, .int .i64 a0_1, .int .i64 a0_2, .sl a0_3, .sl a0_4], .sc (.sl a1)] H).run =
  (C (.fn F.iNetworkOk) [.agg [.int .i64 a0_0, .int .i64 a0_1, .int .i64 a0_2, .sl a0_3, .sl a0_4]] H).bind fun r1 =>
  (oneP r1.vs).bind fun p2 =>
  p2.sc?.bind fun c3 =>
  (boolAt [c3] 0).bind fun b4 =>
  cond (!b4)
  (some ⟨1, [.agg [.int .i64 0, .int .i64 0, .int .i64 0, .sl ⟨0, 0, 0, 0, true⟩, .sl ⟨0, 0, 0, 0, true⟩], .sc (.bool false)], r1.H⟩)
  ((C (.fn F.icopyNetwork) [.agg [.int .i64 a0_0, .int .i64 a0_1, .int .i64 a0_2, .sl a0_3, .sl a0_4]] r1.H).bind fun r5 =>
   (oneP r5.vs).bind fun p6 =>
   p6.agg?.bind fun l7 =>
   cond (decide (l7.length = 5))
   ((intAt .i64 l7 0).bind fun n8 =>
    (intAt .i64 l7 1).bind fun n9 =>
    (intAt .i64 l7 2).bind fun n10 =>
    (slAt l7 3).bind fun s11 =>
    (slAt l7 4).bind fun s12 =>
    (C (.fn F.icopyInts) [.sc (.sl a1)] r5.H).bind fun r13 =>
    (oneP r13.vs).bind fun p14 =>
    p14.sc?.bind fun c15 =>
    (slAt [c15] 0).bind fun s16 =>
    (C (.fn F.iNetworkOk) [.agg [.int .i64 n8, .int .i64 n9, .int .i64 n10, .sl s11, .sl s16]] r13.H).bind fun r17 =>
    (oneP r17.vs).bind fun p18 =>
    p18.sc?.bind fun c19 =>
    (boolAt [c19] 0).bind fun b20 =>
    cond (!b20)
    (some ⟨1, [.agg [.int .i64 0, .int .i64 0, .int .i64 0, .sl ⟨0, 0, 0, 0, true⟩, .sl ⟨0, 0, 0, 0, true⟩], .sc (.bool false)], r17.H⟩)
    (some ⟨1, [.agg [.int .i64 n8, .int .i64 n9, .int .i64 n10, .sl s11, .sl s16], .sc (.bool true)], r17.H⟩))
   (none)) := by kernel_rfl
/- loop.example/g03211/impl.Contract -/
theorem e_iContract (C : Oracle) (a0_0 a0_1 a0_2 : Int) (a0_3 a0_4 a1 : Sl) (H : AH) : (procM P T C (.fn F.iContract) [.agg [.int .i64 a0_0, .int .i64 a0_1, .int .i64 a0_2, .sl a0_3, .sl a0_4], .sc (.sl a1)] H).run =
  (C (.fn F.iPartialNetwork) [.agg [.int .i64 a0_0, .int .i64 a0_1, .int .i64 a0_2, .sl a0_3, .sl a0_4], .sc (.sl a1), .sc (.int .i64 (a1.n : Int))] H).bind fun r1 =>
  (lenP r1.vs 2).bind fun _ =>
  (nthP r1.vs 0).bind fun p2 =>
  p2.agg?.bind fun l3 =>
  cond (decide (l3.length = 5))
  ((intAt .i64 l3 0).bind fun n4 =>
   (intAt .i64 l3 1).bind fun n5 =>
   (intAt .i64 l3 2).bind fun n6 =>
   (slAt l3 3).bind fun s7 =>
   (slAt l3 4).bind fun s8 =>
   (nthP r1.vs 1).bind fun p9 =>
   p9.sc?.bind fun c10 =>
   (boolAt [c10] 0).bind fun b11 =>
   cond (!b11)
   (some ⟨1, [.agg [.sl ⟨0, 0, 0, 0, true⟩, .sl ⟨0, 0, 0, 0, true⟩, .sl ⟨0, 0, 0, 0, true⟩], .sc (.bool false)], r1.H⟩)
   (cond ((s7.n : Int) == 0)
    ((C (.fn F.iscalarOne) [.agg [.int .i64 a0_0, .int .i64 a0_1, .int .i64 a0_2]] r1.H).bind fun r12 =>
     (oneP r12.vs).bind fun p13 =>
     p13.agg?.bind fun l14 =>
     cond (decide (l14.length = 3))
     ((slAt l14 0).bind fun s15 =>
      (slAt l14 1).bind fun s16 =>
      (slAt l14 2).bind fun s17 =>
      some ⟨1, [.agg [.sl s15, .sl s16, .sl s17], .sc (.bool true)], r12.H⟩)
     (none))
    ((ixA s7 0 3).bind fun o18 =>
     (rdB r1.H s7.b).bind fun c19 =>
     (slAt c19 o18).bind fun s20 =>
     (slAt c19 (o18 + 1)).bind fun s21 =>
     (slAt c19 (o18 + 1 + 1)).bind fun s22 =>
     (C (.fn F.iFinishTensor) [.agg [.int .i64 a0_0, .int .i64 a0_1, .int .i64 a0_2, .sl a0_3, .sl a0_4], .agg [.sl s20, .sl s21, .sl s22]] r1.H).bind fun r23 =>
     (lenP r23.vs 2).bind fun _ =>
     (nthP r23.vs 0).bind fun p24 =>
     p24.agg?.bind fun l25 =>
     cond (decide (l25.length = 3))
     ((slAt l25 0).bind fun s26 =>
      (slAt l25 1).bind fun s27 =>
      (slAt l25 2).bind fun s28 =>
      (nthP r23.vs 1).bind fun p29 =>
      p29.sc?.bind fun c30 =>
      (boolAt [c30] 0).bind fun b31 =>
      some ⟨1, [.agg [.sl s26, .sl s27, .sl s28], .sc (.bool b31)], r23.H⟩)
     (none))))
  (none) := by kernel_rfl
/- loop.example/g03211/impl.PlainOrder -/
theorem e_iPlainOrder_0 (C : Oracle) (x3 : Sl) (x4 x5 : Int) (H : AH) : (procM P T C (.loop F.iPlainOrder 0) [.sc (.sl x3), .sc (.int .i64 x4), .sc (.int .i64 x5)] H).run =
  cond (decide (x5 < (IntKind.wrap .i64 (x4 - 1))))
  (cond (x5 == 0)
   ((newB H 2 [.int .i64 0, .int .i64 1]).bind fun h5 =>
    (rng h5.2 h5.1 0 (1 * 2)).bind fun l6 =>
    (appB h5.2 2 16 x3 l6 1).bind fun m7 =>
    C (.loop F.iPlainOrder 0) [.sc (.sl m7.1), .sc (.int .i64 x4), .sc (.int .i64 (IntKind.wrap .i64 (x5 + 1)))] m7.2)
   ((newB H 2 [.int .i64 (IntKind.wrap .i64 (x5 + 1)), .int .i64 (IntKind.wrap .i64 ((IntKind.wrap .i64 (x4 + x5)) - 1))]).bind fun h8 =>
    (rng h8.2 h8.1 0 (1 * 2)).bind fun l9 =>
    (appB h8.2 2 16 x3 l9 1).bind fun m10 =>
    C (.loop F.iPlainOrder 0) [.sc (.sl m10.1), .sc (.int .i64 x4), .sc (.int .i64 (IntKind.wrap .i64 (x5 + 1)))] m10.2))
  (some ⟨2, [.sc (.sl x3)], H⟩) := by kernel_rfl
theorem e_iPlainOrder (C : Oracle) (a0_0 a0_1 a0_2 : Int) (a0_3 a0_4 : Sl) (H : AH) : (procM P T C (.fn F.iPlainOrder) [.agg [.int .i64 a0_0, .int .i64 a0_1, .int .i64 a0_2, .sl a0_3, .sl a0_4]] H).run =
  (C (.fn F.iNetworkOk) [.agg [.int .i64 a0_0, .int .i64 a0_1, .int .i64 a0_2, .sl a0_3, .sl a0_4]] H).bind fun r1 =>
  (oneP r1.vs).bind fun p2 =>
  p2.sc?.bind fun c3 =>
  (boolAt [c3] 0).bind fun b4 =>
  cond (!b4)
  (some ⟨1, [.sc (.sl ⟨0, 0, 0, 0, true⟩)], r1.H⟩)
  ((C (.loop F.iPlainOrder 0) [.sc (.sl ⟨0, 0, 0, 0, true⟩), .sc (.int .i64 (a0_3.n : Int)), .sc (.int .i64 0)] r1.H).bind fun r11 =>
   cond (Nat.beq r11.e 2)
   ((nthP r11.vs 0).bind fun p12 =>
    p12.sc?.bind fun c13 =>
    (slAt [c13] 0).bind fun s14 =>
    some ⟨1, [.sc (.sl s14)], r11.H⟩)
   (none)) := by kernel_rfl
/- loop.example/g03211/spec.l08Join -/
theorem e_sl08Join_0 (C : Oracle) (x7 x8 x19 : Sl) (x20 x21 : Int) (y3_0 y3_1 y3_2 : Sl) (H : AH) : (procM P T C (.loop F.sl08Join 0) [.sc (.sl x7), .sc (.sl x8), .sc (.sl x19), .sc (.int .i64 x20), .sc (.int .i64 x21), .agg [.sl y3_0, .sl y3_1, .sl y3_2]] H).run =
  cond (decide (x21 < x20))
  ((ixA x19 x21 1).bind fun o9 =>
   (rdB H x19.b).bind fun c10 =>
   (intAt .i64 c10 o9).bind fun n11 =>
   (C (.fn F.sl05Find) [.sc (.sl x7), .sc (.int .i64 n11)] H).bind fun r12 =>
   (oneP r12.vs).bind fun p13 =>
   p13.sc?.bind fun c14 =>
   (intAt .i64 [c14] 0).bind fun n15 =>
   ((cond (decide (n15 ≥ 0))
   ((ixA x8 n15 1).bind fun o16 =>
    (rdB r12.H x8.b).bind fun c17 =>
    (intAt .i64 c17 o16).bind fun n18 =>
    (ixA y3_1 x21 1).bind fun o19 =>
    (rdB r12.H y3_1.b).bind fun c20 =>
    (intAt .i64 c20 o19).bind fun n21 =>
    cond (n18 != n21)
    (some ⟨1, [.sc (.sl ⟨0, 0, 0, 0, true⟩), .sc (.sl ⟨0, 0, 0, 0, true⟩), .sc (.bool false)], r12.H⟩)
    (some ⟨0, [], r12.H⟩))
   (some ⟨0, [], r12.H⟩) : Option Out)).bind fun r22 =>
   cond (Nat.beq r22.e 0)
   (cond (decide (n15 < 0))
    ((newB r22.H 1 [.int .i64 n11]).bind fun h23 =>
     (rng h23.2 h23.1 0 (1 * 1)).bind fun l24 =>
     (appB h23.2 1 8 x7 l24 1).bind fun m25 =>
     (ixA y3_1 x21 1).bind fun o26 =>
     (rdB m25.2 y3_1.b).bind fun c27 =>
     (intAt .i64 c27 o26).bind fun n28 =>
     (newB m25.2 1 [.int .i64 n28]).bind fun h29 =>
     (rng h29.2 h29.1 0 (1 * 1)).bind fun l30 =>
     (appB h29.2 1 8 x8 l30 1).bind fun m31 =>
     C (.loop F.sl08Join 0) [.sc (.sl m25.1), .sc (.sl m31.1), .sc (.sl x19), .sc (.int .i64 x20), .sc (.int .i64 (IntKind.wrap .i64 (x21 + 1))), .agg [.sl y3_0, .sl y3_1, .sl y3_2]] m31.2)
    (C (.loop F.sl08Join 0) [.sc (.sl x7), .sc (.sl x8), .sc (.sl x19), .sc (.int .i64 x20), .sc (.int .i64 (IntKind.wrap .i64 (x21 + 1))), .agg [.sl y3_0, .sl y3_1, .sl y3_2]] r22.H))
   (cond (Nat.beq r22.e 1)
    ((nthP r22.vs 0).bind fun p32 =>
     p32.sc?.bind fun c33 =>
     (slAt [c33] 0).bind fun s34 =>
     (nthP r22.vs 1).bind fun p35 =>
     p35.sc?.bind fun c36 =>
     (slAt [c36] 0).bind fun s37 =>
     (nthP r22.vs 2).bind fun p38 =>
     p38.sc?.bind fun c39 =>
     (boolAt [c39] 0).bind fun b40 =>
     some ⟨1, [.sc (.sl s34), .sc (.sl s37), .sc (.bool b40)], r22.H⟩)
    (none)))
  (some ⟨2, [.sc (.sl x7), .sc (.sl x8)], H⟩) := by kernel_rfl
theorem e_sl08Join (C : Oracle) (a0_0 a0_1 a0_2 a1_0 a1_1 a1_2 : Sl) (H : AH) : (procM P T C (.fn F.sl08Join) [.agg [.sl a0_0, .sl a0_1, .sl a0_2], .agg [.sl a1_0, .sl a1_1, .sl a1_2]] H).run =
  (C (.fn F.sl05Ints) [.sc (.sl a0_0)] H).bind fun r1 =>
  (oneP r1.vs).bind fun p2 =>
  p2.sc?.bind fun c3 =>
  (slAt [c3] 0).bind fun s4 =>
  (C (.fn F.sl05Ints) [.sc (.sl a0_1)] r1.H).bind fun r5 =>
  (oneP r5.vs).bind fun p6 =>
  p6.sc?.bind fun c7 =>
  (slAt [c7] 0).bind fun s8 =>
  (C (.loop F.sl08Join 0) [.sc (.sl s4), .sc (.sl s8), .sc (.sl a1_0), .sc (.int .i64 (a1_0.n : Int)), .sc (.int .i64 0), .agg [.sl a1_0, .sl a1_1, .sl a1_2]] r5.H).bind fun r41 =>
  cond (Nat.beq r41.e 1)
  ((nthP r41.vs 0).bind fun p42 =>
   p42.sc?.bind fun c43 =>
   (slAt [c43] 0).bind fun s44 =>
   (nthP r41.vs 1).bind fun p45 =>
   p45.sc?.bind fun c46 =>
   (slAt [c46] 0).bind fun s47 =>
   (nthP r41.vs 2).bind fun p48 =>
   p48.sc?.bind fun c49 =>
   (boolAt [c49] 0).bind fun b50 =>
   some ⟨1, [.sc (.sl s44), .sc (.sl s47), .sc (.bool b50)], r41.H⟩)
  (cond (Nat.beq r41.e 2)
   ((nthP r41.vs 0).bind fun p51 =>
    p51.sc?.bind fun c52 =>
    (slAt [c52] 0).bind fun s53 =>
    (nthP r41.vs 1).bind fun p54 =>
    p54.sc?.bind fun c55 =>
    (slAt [c55] 0).bind fun s56 =>
    some ⟨1, [.sc (.sl s53), .sc (.sl s56), .sc (.bool true)], r41.H⟩)
   (none)) := by kernel_rfl
/- loop.example/g03211/spec.l08Keep -/
theorem e_sl08Keep_0 (C : Oracle) (x1 x2 x11 : Sl) (x12 x13 : Int) (y7_0 y7_1 y7_2 : Sl) (H : AH) : (procM P T C (.loop F.sl08Keep 0) [.sc (.sl x1), .sc (.sl x2), .sc (.sl x11), .sc (.int .i64 x12), .sc (.int .i64 x13), .agg [.sl y7_0, .sl y7_1, .sl y7_2]] H).run =
  cond (decide (x13 < x12))
  ((ixA x11 x13 1).bind fun o1 =>
   (rdB H x11.b).bind fun c2 =>
   (intAt .i64 c2 o1).bind fun n3 =>
   (C (.fn F.sl05Find) [.sc (.sl x2), .sc (.int .i64 n3)] H).bind fun r4 =>
   (oneP r4.vs).bind fun p5 =>
   p5.sc?.bind fun c6 =>
   (intAt .i64 [c6] 0).bind fun n7 =>
   cond (decide (n7 ≥ 0))
   ((newB r4.H 1 [.int .i64 n3]).bind fun h8 =>
    (rng h8.2 h8.1 0 (1 * 1)).bind fun l9 =>
    (appB h8.2 1 8 y7_0 l9 1).bind fun m10 =>
    (ixA x1 x13 1).bind fun o11 =>
    (rdB (reserve m10.2 1) x1.b).bind fun c12 =>
    (intAt .i64 c12 o11).bind fun n13 =>
    (newAt (reserve m10.2 1) (m10.2.length + 0) 1 [.int .i64 n13]).bind fun h14 =>
    (rng h14.2 h14.1 0 (1 * 1)).bind fun l15 =>
    (appB h14.2 1 8 y7_1 l15 1).bind fun m16 =>
    C (.loop F.sl08Keep 0) [.sc (.sl x1), .sc (.sl x2), .sc (.sl x11), .sc (.int .i64 x12), .sc (.int .i64 (IntKind.wrap .i64 (x13 + 1))), .agg [.sl m10.1, .sl m16.1, .sl y7_2]] m16.2)
   (C (.loop F.sl08Keep 0) [.sc (.sl x1), .sc (.sl x2), .sc (.sl x11), .sc (.int .i64 x12), .sc (.int .i64 (IntKind.wrap .i64 (x13 + 1))), .agg [.sl y7_0, .sl y7_1, .sl y7_2]] r4.H))
  (some ⟨2, [.agg [.sl y7_0, .sl y7_1, .sl y7_2]], H⟩) := by kernel_rfl
theorem e_sl08Keep (C : Oracle) (a0 a1 a2 : Sl) (H : AH) : (procM P T C (.fn F.sl08Keep) [.sc (.sl a0), .sc (.sl a1), .sc (.sl a2)] H).run =
  (C (.loop F.sl08Keep 0) [.sc (.sl a1), .sc (.sl a2), .sc (.sl a0), .sc (.int .i64 (a0.n : Int)), .sc (.int .i64 0), .agg [.sl ⟨0, 0, 0, 0, true⟩, .sl ⟨0, 0, 0, 0, true⟩, .sl ⟨0, 0, 0, 0, true⟩]] H).bind fun r17 =>
  cond (Nat.beq r17.e 2)
  (((nthP r17.vs 0).bind PV.agg?).bind fun l18 =>
   cond (decide (l18.length = 3))
   ((slAt l18 0).bind fun s19 =>
    (slAt l18 1).bind fun s20 =>
    (slAt l18 2).bind fun s21 =>
    some ⟨1, [.agg [.sl s19, .sl s20, .sl s21]], r17.H⟩)
   (none))
  (none) := by kernel_rfl
end Go.Abs
