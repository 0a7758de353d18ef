/- Part of the proof of FnExactMakePlan: that for every input the law answers true and leaves what it reads as it was. Conditions: none beyond the given statement. -/
import Derived.Test.YtabkpkhjpfjpeaaGreatLabTab
import Derived.KernelRfl
set_option linter.all false
/- The equations of the functions: what the abstract interpreter makes of their code. -/
namespace Go.Abs
set_option maxRecDepth 100000
set_option linter.unusedVariables false
/- loop.example/g03211/spec.l12Labels -/
theorem e_sl12Labels_0 (C : Oracle) (x0 x3 : Sl) (x4 : Int) (H : AH) : (procM P T C (.loop F.sl12Labels 0) [.sc (.sl x0), .sc (.sl x3), .sc (.int .i64 x4)] H).run =
  cond (decide (x4 ≤ 99))
  ((C (.fn F.sl12Dim) [.sc (.sl x0), .sc (.int .i64 x4)] H).bind fun r2 =>
   (oneP r2.vs).bind fun p3 =>
   p3.sc?.bind fun c4 =>
   (intAt .i64 [c4] 0).bind fun n5 =>
   cond (decide (n5 > 0))
   ((newB r2.H 1 [.int .i64 x4]).bind fun h6 =>
    (rng h6.2 h6.1 0 (1 * 1)).bind fun l7 =>
    (appB h6.2 1 8 x3 l7 1).bind fun m8 =>
    C (.loop F.sl12Labels 0) [.sc (.sl x0), .sc (.sl m8.1), .sc (.int .i64 (IntKind.wrap .i64 (x4 + 1)))] m8.2)
   (C (.loop F.sl12Labels 0) [.sc (.sl x0), .sc (.sl x3), .sc (.int .i64 (IntKind.wrap .i64 (x4 + 1)))] r2.H))
  (some ⟨2, [.sc (.sl x3)], H⟩) := by kernel_rfl
theorem e_sl12Labels (C : Oracle) (a0 : Sl) (H : AH) : (procM P T C (.fn F.sl12Labels) [.sc (.sl a0)] H).run =
  (newB H 1 []).bind fun h1 =>
  (C (.loop F.sl12Labels 0) [.sc (.sl a0), .sc (.sl ⟨h1.1, 0, 0, 0, true⟩), .sc (.int .i64 0)] h1.2).bind fun r9 =>
  cond (Nat.beq r9.e 2)
  ((nthP r9.vs 0).bind fun p10 =>
   p10.sc?.bind fun c11 =>
   (slAt [c11] 0).bind fun s12 =>
   some ⟨1, [.sc (.sl s12)], r9.H⟩)
  (none) := by kernel_rfl
/- loop.example/g03211/spec.l05Copy -/
theorem e_sl05Copy (C : Oracle) (a0_0 a0_1 a0_2 : Sl) (H : AH) : (procM P T C (.fn F.sl05Copy) [.agg [.sl a0_0, .sl a0_1, .sl a0_2]] H).run =
  (C (.fn F.sl05Ints) [.sc (.sl a0_0)] H).bind fun r1 =>
  (oneP r1.vs).bind fun p2 =>
  p2.sc?.bind fun c3 =>
  (slAt [c3] 0).bind fun s4 =>
  (C (.fn F.sl05Ints) [.sc (.sl a0_1)] r1.H).bind fun r5 =>
  (oneP r5.vs).bind fun p6 =>
  p6.sc?.bind fun c7 =>
  (slAt [c7] 0).bind fun s8 =>
  (C (.fn F.sl05Ints) [.sc (.sl a0_2)] r5.H).bind fun r9 =>
  (oneP r9.vs).bind fun p10 =>
  p10.sc?.bind fun c11 =>
  (slAt [c11] 0).bind fun s12 =>
  some ⟨1, [.agg [.sl s4, .sl s8, .sl s12]], r9.H⟩ := by kernel_rfl
/- loop.example/g03211/spec.l09Slice -/
theorem e_sl09Slice_0 (C : Oracle) (x10 : Int) (x20 : Sl) (x21 x22 : Int) (y5_0 y5_1 y5_2 y9_0 y9_1 y9_2 : Sl) (H : AH) : (procM P T C (.loop F.sl09Slice 0) [.sc (.int .i64 x10), .sc (.sl x20), .sc (.int .i64 x21), .sc (.int .i64 x22), .agg [.sl y5_0, .sl y5_1, .sl y5_2], .agg [.sl y9_0, .sl y9_1, .sl y9_2]] H).run =
  cond (decide (x22 < x21))
  ((ixA x20 x22 1).bind fun o5 =>
   (rdB H x20.b).bind fun c6 =>
   (intAt .i64 c6 o5).bind fun n7 =>
   cond (x22 != x10)
   ((newB H 1 [.int .i64 n7]).bind fun h8 =>
    (rng h8.2 h8.1 0 (1 * 1)).bind fun l9 =>
    (appB h8.2 1 8 y9_0 l9 1).bind fun m10 =>
    (ixA y5_1 x22 1).bind fun o11 =>
    (rdB (reserve m10.2 1) y5_1.b).bind fun c12 =>
    (intAt .i64 c12 o11).bind fun n13 =>
    (newAt (reserve m10.2 1) (m10.2.length + 0) 1 [.int .i64 n13]).bind fun h14 =>
    (rng h14.2 h14.1 0 (1 * 1)).bind fun l15 =>
    (appB h14.2 1 8 y9_1 l15 1).bind fun m16 =>
    C (.loop F.sl09Slice 0) [.sc (.int .i64 x10), .sc (.sl x20), .sc (.int .i64 x21), .sc (.int .i64 (IntKind.wrap .i64 (x22 + 1))), .agg [.sl y5_0, .sl y5_1, .sl y5_2], .agg [.sl m10.1, .sl m16.1, .sl y9_2]] m16.2)
   (C (.loop F.sl09Slice 0) [.sc (.int .i64 x10), .sc (.sl x20), .sc (.int .i64 x21), .sc (.int .i64 (IntKind.wrap .i64 (x22 + 1))), .agg [.sl y5_0, .sl y5_1, .sl y5_2], .agg [.sl y9_0, .sl y9_1, .sl y9_2]] H))
  (some ⟨2, [.agg [.sl y9_0, .sl y9_1, .sl y9_2]], H⟩) := by kernel_rfl
theorem e_sl09Slice_1 (C : Oracle) (x3 x10 x13 y4_0 y4_1 y4_2 : Int) (y5_0 y5_1 y5_2 y9_0 y9_1 y9_2 : Sl) (H : AH) : (procM P T C (.loop F.sl09Slice 1) [.sc (.int .i64 x3), .sc (.int .i64 x10), .sc (.int .i64 x13), .agg [.int .i64 y4_0, .int .i64 y4_1, .int .i64 y4_2], .agg [.sl y5_0, .sl y5_1, .sl y5_2], .agg [.sl y9_0, .sl y9_1, .sl y9_2]] H).run =
  (C (.fn F.sl05Product) [.sc (.sl y5_1), .sc (.int .i64 4096)] H).bind fun r22 =>
  (oneP r22.vs).bind fun p23 =>
  p23.sc?.bind fun c24 =>
  (intAt .i64 [c24] 0).bind fun n25 =>
  cond (decide (x13 < n25))
  ((C (.fn F.sl05Index) [.sc (.sl y5_1), .sc (.int .i64 x13)] r22.H).bind fun r26 =>
   (oneP r26.vs).bind fun p27 =>
   p27.sc?.bind fun c28 =>
   (slAt [c28] 0).bind fun s29 =>
   (ixA s29 x10 1).bind fun o30 =>
   (rdB r26.H s29.b).bind fun c31 =>
   (intAt .i64 c31 o30).bind fun n32 =>
   cond (n32 == x3)
   ((C (.fn F.sl05Get) [.agg [.int .i64 y4_0, .int .i64 y4_1, .int .i64 y4_2], .agg [.sl y5_0, .sl y5_1, .sl y5_2], .sc (.int .i64 x13)] r26.H).bind fun r33 =>
    (oneP r33.vs).bind fun p34 =>
    p34.sc?.bind fun c35 =>
    (slAt [c35] 0).bind fun s36 =>
    (rng r33.H s36.b s36.o (s36.n * 1)).bind fun l37 =>
    (appB r33.H 1 8 y9_2 l37 s36.n).bind fun m38 =>
    C (.loop F.sl09Slice 1) [.sc (.int .i64 x3), .sc (.int .i64 x10), .sc (.int .i64 (IntKind.wrap .i64 (x13 + 1))), .agg [.int .i64 y4_0, .int .i64 y4_1, .int .i64 y4_2], .agg [.sl y5_0, .sl y5_1, .sl y5_2], .agg [.sl y9_0, .sl y9_1, .sl m38.1]] m38.2)
   (C (.loop F.sl09Slice 1) [.sc (.int .i64 x3), .sc (.int .i64 x10), .sc (.int .i64 (IntKind.wrap .i64 (x13 + 1))), .agg [.int .i64 y4_0, .int .i64 y4_1, .int .i64 y4_2], .agg [.sl y5_0, .sl y5_1, .sl y5_2], .agg [.sl y9_0, .sl y9_1, .sl y9_2]] r26.H))
  (some ⟨4, [.agg [.sl y9_0, .sl y9_1, .sl y9_2]], r22.H⟩) := by kernel_rfl
theorem e_sl09Slice (C : Oracle) (a0_0 a0_1 a0_2 : Int) (a1_0 a1_1 a1_2 : Sl) (a2 a3 : Int) (H : AH) : (procM P T C (.fn F.sl09Slice) [.agg [.int .i64 a0_0, .int .i64 a0_1, .int .i64 a0_2], .agg [.sl a1_0, .sl a1_1, .sl a1_2], .sc (.int .i64 a2), .sc (.int .i64 a3)] H).run =
  (C (.fn F.sl05Find) [.sc (.sl a1_0), .sc (.int .i64 a2)] H).bind fun r1 =>
  (oneP r1.vs).bind fun p2 =>
  p2.sc?.bind fun c3 =>
  (intAt .i64 [c3] 0).bind fun n4 =>
  (C (.loop F.sl09Slice 0) [.sc (.int .i64 n4), .sc (.sl a1_0), .sc (.int .i64 (a1_0.n : Int)), .sc (.int .i64 0), .agg [.sl a1_0, .sl a1_1, .sl a1_2], .agg [.sl ⟨0, 0, 0, 0, true⟩, .sl ⟨0, 0, 0, 0, true⟩, .sl ⟨0, 0, 0, 0, true⟩]] r1.H).bind fun r17 =>
  cond (Nat.beq r17.e 2)
  (((nthP r17.vs 0).bind PV.agg?).bind fun l18 =>
   cond (decide (l18.length = 3))
   ((slAt l18 0).bind fun s19 =>
    (slAt l18 1).bind fun s20 =>
    (slAt l18 2).bind fun s21 =>
    (C (.loop F.sl09Slice 1) [.sc (.int .i64 a3), .sc (.int .i64 n4), .sc (.int .i64 0), .agg [.int .i64 a0_0, .int .i64 a0_1, .int .i64 a0_2], .agg [.sl a1_0, .sl a1_1, .sl a1_2], .agg [.sl s19, .sl s20, .sl s21]] r17.H).bind fun r39 =>
    cond (Nat.beq r39.e 4)
    (((nthP r39.vs 0).bind PV.agg?).bind fun l40 =>
     cond (decide (l40.length = 3))
     ((slAt l40 0).bind fun s41 =>
      (slAt l40 1).bind fun s42 =>
      (slAt l40 2).bind fun s43 =>
      some ⟨1, [.agg [.sl s41, .sl s42, .sl s43]], r39.H⟩)
     (none))
    (none))
   (none))
  (none) := by kernel_rfl
/- loop.example/g03211/impl.RingOk -/
theorem e_iRingOk (C : Oracle) (a0_0 a0_1 a0_2 : Int) (H : AH) : (procM P T C (.fn F.iRingOk) [.agg [.int .i64 a0_0, .int .i64 a0_1, .int .i64 a0_2]] H).run =
  cond (a0_0 == 1)
  (cond (a0_1 == 0)
   (some ⟨1, [.sc (.bool (a0_2 == 0))], H⟩)
   (some ⟨1, [.sc (.bool false)], H⟩))
  (cond (a0_0 == 2)
   ((C (.fn F.iIsPrime) [.sc (.int .i64 a0_1)] H).bind fun r1 =>
    (oneP r1.vs).bind fun p2 =>
    p2.sc?.bind fun c3 =>
    (boolAt [c3] 0).bind fun b4 =>
    cond b4
    (some ⟨1, [.sc (.bool (a0_2 == 0))], r1.H⟩)
    (some ⟨1, [.sc (.bool false)], r1.H⟩))
   (((cond (a0_0 == 3)
   (some ⟨0, [.sc (.bool (a0_0 == 3))], H⟩)
   (cond (a0_0 == 4)
    (some ⟨0, [.sc (.bool (a0_0 == 4))], H⟩)
    (some ⟨0, [.sc (.bool (a0_0 == 5))], H⟩)) : Option Out)).bind fun r5 =>
    cond (Nat.beq r5.e 0)
    ((nthP r5.vs 0).bind fun p6 =>
     p6.sc?.bind fun c7 =>
     (boolAt [c7] 0).bind fun b8 =>
     cond b8
     (cond (decide (a0_1 ≥ 1))
      (cond (decide (a0_1 ≤ 1000000))
       (some ⟨1, [.sc (.bool (a0_2 == 0))], r5.H⟩)
       (some ⟨1, [.sc (.bool false)], r5.H⟩))
      (some ⟨1, [.sc (.bool false)], r5.H⟩))
     (cond (a0_0 == 6)
      (cond (a0_1 == 0)
       (cond (decide (a0_2 ≥ 1))
        (some ⟨1, [.sc (.bool (decide (a0_2 ≤ 20)))], r5.H⟩)
        (some ⟨1, [.sc (.bool false)], r5.H⟩))
       (some ⟨1, [.sc (.bool false)], r5.H⟩))
      (cond (a0_0 == 7)
       ((C (.fn F.iIsPrime) [.sc (.int .i64 a0_1)] r5.H).bind fun r9 =>
        (oneP r9.vs).bind fun p10 =>
        p10.sc?.bind fun c11 =>
        (boolAt [c11] 0).bind fun b12 =>
        cond b12
        (cond (decide (a0_2 ≥ 1))
         (some ⟨1, [.sc (.bool (decide (a0_2 ≤ 6)))], r9.H⟩)
         (some ⟨1, [.sc (.bool false)], r9.H⟩))
        (some ⟨1, [.sc (.bool false)], r9.H⟩))
       (cond (a0_0 == 8)
        ((C (.fn F.iIsPrime) [.sc (.int .i64 a0_1)] r5.H).bind fun r13 =>
         (oneP r13.vs).bind fun p14 =>
         p14.sc?.bind fun c15 =>
         (boolAt [c15] 0).bind fun b16 =>
         cond b16
         (cond (a0_1 != 2)
          (some ⟨1, [.sc (.bool (a0_2 == 0))], r13.H⟩)
          (some ⟨1, [.sc (.bool false)], r13.H⟩))
         (some ⟨1, [.sc (.bool false)], r13.H⟩))
        (some ⟨1, [.sc (.bool false)], r5.H⟩)))))
    (none))) := by kernel_rfl
/- loop.example/g03211/impl.TensorOk -/
theorem e_iTensorOk (C : Oracle) (a0_0 a0_1 a0_2 : Int) (a1_0 a1_1 a1_2 : Sl) (H : AH) : (procM P T C (.fn F.iTensorOk) [.agg [.int .i64 a0_0, .int .i64 a0_1, .int .i64 a0_2], .agg [.sl a1_0, .sl a1_1, .sl a1_2]] H).run =
  (C (.fn F.iRingOk) [.agg [.int .i64 a0_0, .int .i64 a0_1, .int .i64 a0_2]] H).bind fun r1 =>
  (oneP r1.vs).bind fun p2 =>
  p2.sc?.bind fun c3 =>
  (boolAt [c3] 0).bind fun b4 =>
  cond (!b4)
  (some ⟨1, [.sc (.bool false)], r1.H⟩)
  ((C (.fn F.iTensorSize) [.agg [.sl a1_0, .sl a1_1, .sl a1_2]] r1.H).bind fun r5 =>
   (oneP r5.vs).bind fun p6 =>
   p6.sc?.bind fun c7 =>
   (intAt .i64 [c7] 0).bind fun n8 =>
   cond (n8 != (-1))
   ((C (.fn F.irawWidth) [.agg [.int .i64 a0_0, .int .i64 a0_1, .int .i64 a0_2]] r5.H).bind fun r9 =>
    (oneP r9.vs).bind fun p10 =>
    p10.sc?.bind fun c11 =>
    (intAt .i64 [c11] 0).bind fun n12 =>
    cond ((a1_2.n : Int) == (IntKind.wrap .i64 (n8 * n12)))
    ((C (.fn F.iinRing) [.agg [.int .i64 a0_0, .int .i64 a0_1, .int .i64 a0_2], .sc (.sl a1_2)] r9.H).bind fun r13 =>
     (oneP r13.vs).bind fun p14 =>
     p14.sc?.bind fun c15 =>
     (boolAt [c15] 0).bind fun b16 =>
     some ⟨1, [.sc (.bool b16)], r13.H⟩)
    (some ⟨1, [.sc (.bool false)], r9.H⟩))
   (some ⟨1, [.sc (.bool false)], r5.H⟩)) := by kernel_rfl
/- loop.example/g03211/impl.TensorSize -/
theorem e_iTensorSize_0 (C : Oracle) (x3 : Int) (x21 : Sl) (x22 x23 : Int) (y1_0 y1_1 y1_2 : Sl) (H : AH) : (procM P T C (.loop F.iTensorSize 0) [.sc (.int .i64 x3), .sc (.sl x21), .sc (.int .i64 x22), .sc (.int .i64 x23), .agg [.sl y1_0, .sl y1_1, .sl y1_2]] H).run =
  cond (decide (x23 < x22))
  ((ixA x21 x23 1).bind fun o1 =>
   (rdB H x21.b).bind fun c2 =>
   (intAt .i64 c2 o1).bind fun n3 =>
   cond (decide (n3 < 0))
   (some ⟨1, [.sc (.int .i64 (-1))], H⟩)
   (cond (decide (n3 > 99))
    (some ⟨1, [.sc (.int .i64 (-1))], H⟩)
    ((slB y1_0 none (some x23) none 1).bind fun s4 =>
     (C (.fn F.ihasInt) [.sc (.sl s4), .sc (.int .i64 n3)] H).bind fun r5 =>
     (oneP r5.vs).bind fun p6 =>
     p6.sc?.bind fun c7 =>
     (boolAt [c7] 0).bind fun b8 =>
     cond b8
     (some ⟨1, [.sc (.int .i64 (-1))], r5.H⟩)
     ((ixA y1_1 x23 1).bind fun o9 =>
      (rdB r5.H y1_1.b).bind fun c10 =>
      (intAt .i64 c10 o9).bind fun n11 =>
      cond (decide (n11 < 1))
      (some ⟨1, [.sc (.int .i64 (-1))], r5.H⟩)
      (cond (decide (n11 > 8))
       (some ⟨1, [.sc (.int .i64 (-1))], r5.H⟩)
       (cond (decide ((IntKind.wrap .i64 (x3 * n11)) > 4096))
        (some ⟨1, [.sc (.int .i64 (-1))], r5.H⟩)
        (C (.loop F.iTensorSize 0) [.sc (.int .i64 (IntKind.wrap .i64 (x3 * n11))), .sc (.sl x21), .sc (.int .i64 x22), .sc (.int .i64 (IntKind.wrap .i64 (x23 + 1))), .agg [.sl y1_0, .sl y1_1, .sl y1_2]] r5.H)))))))
  (some ⟨2, [.sc (.int .i64 x3)], H⟩) := by kernel_rfl
theorem e_iTensorSize (C : Oracle) (a0_0 a0_1 a0_2 : Sl) (H : AH) : (procM P T C (.fn F.iTensorSize) [.agg [.sl a0_0, .sl a0_1, .sl a0_2]] H).run =
  cond (decide ((a0_0.n : Int) > 12))
  (some ⟨1, [.sc (.int .i64 (-1))], H⟩)
  (cond ((a0_0.n : Int) != (a0_1.n : Int))
   (some ⟨1, [.sc (.int .i64 (-1))], H⟩)
   ((C (.loop F.iTensorSize 0) [.sc (.int .i64 1), .sc (.sl a0_0), .sc (.int .i64 (a0_0.n : Int)), .sc (.int .i64 0), .agg [.sl a0_0, .sl a0_1, .sl a0_2]] H).bind fun r12 =>
    cond (Nat.beq r12.e 1)
    ((nthP r12.vs 0).bind fun p13 =>
     p13.sc?.bind fun c14 =>
     (intAt .i64 [c14] 0).bind fun n15 =>
     some ⟨1, [.sc (.int .i64 n15)], r12.H⟩)
    (cond (Nat.beq r12.e 2)
     ((nthP r12.vs 0).bind fun p16 =>
      p16.sc?.bind fun c17 =>
      (intAt .i64 [c17] 0).bind fun n18 =>
      some ⟨1, [.sc (.int .i64 n18)], r12.H⟩)
     (none)))) := by kernel_rfl
/- loop.example/g03211/impl.LabelsOf -/
theorem e_iLabelsOf (C : Oracle) (a0_0 a0_1 a0_2 : Int) (a0_3 a0_4 : Sl) (H : AH) : (procM P T C (.fn F.iLabelsOf) [.agg [.int .i64 a0_0, .int .i64 a0_1, .int .i64 a0_2, .sl a0_3, .sl a0_4]] H).run =
  (C (.fn F.iNetworkOk) [.agg [.int .i64 a0_0, .int .i64 a0_1, .int .i64 a0_2, .sl a0_3, .sl a0_4]] H).bind fun r1 =>
  (oneP r1.vs).bind fun p2 =>
  p2.sc?.bind fun c3 =>
  (boolAt [c3] 0).bind fun b4 =>
  cond (!b4)
  (some ⟨1, [.sc (.sl ⟨0, 0, 0, 0, true⟩)], r1.H⟩)
  ((C (.fn F.idimsOf) [.sc (.sl a0_3)] r1.H).bind fun r5 =>
   (lenP r5.vs 2).bind fun _ =>
   (nthP r5.vs 0).bind fun p6 =>
   p6.agg?.bind fun l7 =>
   cond (decide (l7.length = 100))
   ((nthP r5.vs 1).bind fun p8 =>
    p8.sc?.bind fun c9 =>
    (boolAt [c9] 0).bind fun b10 =>
    cond (Nat.beq l7.length 100)
    (cond (decide (0 + l7.length ≤ (zc P Y.t100_int).length))
     (cond (decide (100 ≤ (setAll (zc P Y.t100_int) 0 l7).length))
      ((C (.fn F.ioccurring) [.agg (((setAll (zc P Y.t100_int) 0 l7).drop 0).take 100)] r5.H).bind fun r11 =>
       (oneP r11.vs).bind fun p12 =>
       p12.sc?.bind fun c13 =>
       (slAt [c13] 0).bind fun s14 =>
       some ⟨1, [.sc (.sl s14)], r11.H⟩)
      (none))
     (none))
    (none))
   (none)) := by kernel_rfl
/- loop.example/g03211/impl.joinLabels -/
theorem e_ijoinLabels_0 (C : Oracle) (x0 x5 x10 : Sl) (x11 x12 : Int) (H : AH) : (procM P T C (.loop F.ijoinLabels 0) [.sc (.sl x0), .sc (.sl x5), .sc (.sl x10), .sc (.int .i64 x11), .sc (.int .i64 x12)] H).run =
  cond (decide (x12 < x11))
  ((ixA x10 x12 1).bind fun o5 =>
   (rdB H x10.b).bind fun c6 =>
   (intAt .i64 c6 o5).bind fun n7 =>
   (C (.fn F.ihasInt) [.sc (.sl x0), .sc (.int .i64 n7)] H).bind fun r8 =>
   (oneP r8.vs).bind fun p9 =>
   p9.sc?.bind fun c10 =>
   (boolAt [c10] 0).bind fun b11 =>
   cond (!b11)
   ((newB r8.H 1 [.int .i64 n7]).bind fun h12 =>
    (rng h12.2 h12.1 0 (1 * 1)).bind fun l13 =>
    (appB h12.2 1 8 x5 l13 1).bind fun m14 =>
    C (.loop F.ijoinLabels 0) [.sc (.sl x0), .sc (.sl m14.1), .sc (.sl x10), .sc (.int .i64 x11), .sc (.int .i64 (IntKind.wrap .i64 (x12 + 1)))] m14.2)
   (C (.loop F.ijoinLabels 0) [.sc (.sl x0), .sc (.sl x5), .sc (.sl x10), .sc (.int .i64 x11), .sc (.int .i64 (IntKind.wrap .i64 (x12 + 1)))] r8.H))
  (some ⟨2, [.sc (.sl x5)], H⟩) := by kernel_rfl
theorem e_ijoinLabels (C : Oracle) (a0 a1 : Sl) (H : AH) : (procM P T C (.fn F.ijoinLabels) [.sc (.sl a0), .sc (.sl a1)] H).run =
  (C (.fn F.icopyInts) [.sc (.sl a0)] H).bind fun r1 =>
  (oneP r1.vs).bind fun p2 =>
  p2.sc?.bind fun c3 =>
  (slAt [c3] 0).bind fun s4 =>
  (C (.loop F.ijoinLabels 0) [.sc (.sl a0), .sc (.sl s4), .sc (.sl a1), .sc (.int .i64 (a1.n : Int)), .sc (.int .i64 0)] r1.H).bind fun r15 =>
  cond (Nat.beq r15.e 2)
  ((nthP r15.vs 0).bind fun p16 =>
   p16.sc?.bind fun c17 =>
   (slAt [c17] 0).bind fun s18 =>
   some ⟨1, [.sc (.sl s18)], r15.H⟩)
  (none) := by kernel_rfl
/- loop.example/g03211/impl.DimOf -/
theorem e_iDimOf (C : Oracle) (a0_0 a0_1 a0_2 : Int) (a0_3 a0_4 : Sl) (a1 : Int) (H : AH) : (procM P T C (.fn F.iDimOf) [.agg [.int .i64 a0_0, .int .i64 a0_1, .int .i64 a0_2, .sl a0_3, .sl a0_4], .sc (.int .i64 a1)] H).run =
  (C (.fn F.iNetworkOk) [.agg [.int .i64 a0_0, .int .i64 a0_1, .int .i64 a0_2, .sl a0_3, .sl a0_4]] H).bind fun r1 =>
  (oneP r1.vs).bind fun p2 =>
  p2.sc?.bind fun c3 =>
  (boolAt [c3] 0).bind fun b4 =>
  cond (!b4)
  (some ⟨1, [.sc (.int .i64 0)], r1.H⟩)
  (cond (decide (a1 < 0))
   (some ⟨1, [.sc (.int .i64 0)], r1.H⟩)
   (cond (decide (a1 > 99))
    (some ⟨1, [.sc (.int .i64 0)], r1.H⟩)
    ((C (.fn F.idimsOf) [.sc (.sl a0_3)] r1.H).bind fun r5 =>
     (lenP r5.vs 2).bind fun _ =>
     (nthP r5.vs 0).bind fun p6 =>
     p6.agg?.bind fun l7 =>
     cond (decide (l7.length = 100))
     ((nthP r5.vs 1).bind fun p8 =>
      p8.sc?.bind fun c9 =>
      (boolAt [c9] 0).bind fun b10 =>
      cond (Nat.beq l7.length 100)
      (cond (decide (0 + l7.length ≤ (zc P Y.t100_int).length))
       ((ixA ⟨0, 0, 100, 100, true⟩ a1 1).bind fun o11 =>
        (intAt .i64 (setAll (zc P Y.t100_int) 0 l7) o11).bind fun n12 =>
        some ⟨1, [.sc (.int .i64 n12)], r5.H⟩)
       (none))
      (none))
     (none)))) := by kernel_rfl
/- loop.example/g03211/impl.withoutInt -/
theorem e_iwithoutInt_0 (C : Oracle) (x1 : Int) (x5 x8 : Sl) (x9 x10 : Int) (H : AH) : (procM P T C (.loop F.iwithoutInt 0) [.sc (.int .i64 x1), .sc (.sl x5), .sc (.sl x8), .sc (.int .i64 x9), .sc (.int .i64 x10)] H).run =
  cond (decide (x10 < x9))
  ((ixA x8 x10 1).bind fun o1 =>
   (rdB H x8.b).bind fun c2 =>
   (intAt .i64 c2 o1).bind fun n3 =>
   cond (n3 != x1)
   ((newB H 1 [.int .i64 n3]).bind fun h4 =>
    (rng h4.2 h4.1 0 (1 * 1)).bind fun l5 =>
    (appB h4.2 1 8 x5 l5 1).bind fun m6 =>
    C (.loop F.iwithoutInt 0) [.sc (.int .i64 x1), .sc (.sl m6.1), .sc (.sl x8), .sc (.int .i64 x9), .sc (.int .i64 (IntKind.wrap .i64 (x10 + 1)))] m6.2)
   (C (.loop F.iwithoutInt 0) [.sc (.int .i64 x1), .sc (.sl x5), .sc (.sl x8), .sc (.int .i64 x9), .sc (.int .i64 (IntKind.wrap .i64 (x10 + 1)))] H))
  (some ⟨2, [.sc (.sl x5)], H⟩) := by kernel_rfl
theorem e_iwithoutInt (C : Oracle) (a0 : Sl) (a1 : Int) (H : AH) : (procM P T C (.fn F.iwithoutInt) [.sc (.sl a0), .sc (.int .i64 a1)] H).run =
  (C (.loop F.iwithoutInt 0) [.sc (.int .i64 a1), .sc (.sl ⟨0, 0, 0, 0, true⟩), .sc (.sl a0), .sc (.int .i64 (a0.n : Int)), .sc (.int .i64 0)] H).bind fun r7 =>
  cond (Nat.beq r7.e 2)
  ((nthP r7.vs 0).bind fun p8 =>
   p8.sc?.bind fun c9 =>
   (slAt [c9] 0).bind fun s10 =>
   some ⟨1, [.sc (.sl s10)], r7.H⟩)
  (none) := by kernel_rfl
/- loop.example/g03211/impl.copyTensor -/
theorem e_icopyTensor (C : Oracle) (a0_0 a0_1 a0_2 : Sl) (H : AH) : (procM P T C (.fn F.icopyTensor) [.agg [.sl a0_0, .sl a0_1, .sl a0_2]] H).run =
  (C (.fn F.icopyInts) [.sc (.sl a0_0)] H).bind fun r1 =>
  (oneP r1.vs).bind fun p2 =>
  p2.sc?.bind fun c3 =>
  (slAt [c3] 0).bind fun s4 =>
  (C (.fn F.icopyInts) [.sc (.sl a0_1)] r1.H).bind fun r5 =>
  (oneP r5.vs).bind fun p6 =>
  p6.sc?.bind fun c7 =>
  (slAt [c7] 0).bind fun s8 =>
  (C (.fn F.icopyInts) [.sc (.sl a0_2)] r5.H).bind fun r9 =>
  (oneP r9.vs).bind fun p10 =>
  p10.sc?.bind fun c11 =>
  (slAt [c11] 0).bind fun s12 =>
  some ⟨1, [.agg [.sl s4, .sl s8, .sl s12]], r9.H⟩ := by kernel_rfl
/- loop.example/g03211/impl.axisOf -/
theorem e_iaxisOf_0 (C : Oracle) (x1 : Int) (x8 : Sl) (x9 x10 : Int) (H : AH) : (procM P T C (.loop F.iaxisOf 0) [.sc (.int .i64 x1), .sc (.sl x8), .sc (.int .i64 x9), .sc (.int .i64 x10)] H).run =
  cond (decide (x10 < x9))
  ((ixA x8 x10 1).bind fun o1 =>
   (rdB H x8.b).bind fun c2 =>
   (intAt .i64 c2 o1).bind fun n3 =>
   cond (n3 == x1)
   (some ⟨1, [.sc (.int .i64 x10)], H⟩)
   (C (.loop F.iaxisOf 0) [.sc (.int .i64 x1), .sc (.sl x8), .sc (.int .i64 x9), .sc (.int .i64 (IntKind.wrap .i64 (x10 + 1)))] H))
  (some ⟨2, [], H⟩) := by kernel_rfl
theorem e_iaxisOf (C : Oracle) (a0_0 a0_1 a0_2 : Sl) (a1 : Int) (H : AH) : (procM P T C (.fn F.iaxisOf) [.agg [.sl a0_0, .sl a0_1, .sl a0_2], .sc (.int .i64 a1)] H).run =
  (C (.loop F.iaxisOf 0) [.sc (.int .i64 a1), .sc (.sl a0_0), .sc (.int .i64 (a0_0.n : Int)), .sc (.int .i64 0)] H).bind fun r4 =>
  cond (Nat.beq r4.e 1)
  ((nthP r4.vs 0).bind fun p5 =>
   p5.sc?.bind fun c6 =>
   (intAt .i64 [c6] 0).bind fun n7 =>
   some ⟨1, [.sc (.int .i64 n7)], r4.H⟩)
  (cond (Nat.beq r4.e 2)
   (some ⟨1, [.sc (.int .i64 (-1))], r4.H⟩)
   (none)) := by kernel_rfl
/- loop.example/g03211/impl.SliceTensor -/
theorem e_iSliceTensor_0 (C : Oracle) (x47 : Sl) (x48 x49 : Int) (y5_0 y5_1 y5_2 y11_0 y11_1 y11_2 : Sl) (H : AH) : (procM P T C (.loop F.iSliceTensor 0) [.sc (.sl x47), .sc (.int .i64 x48), .sc (.int .i64 x49), .agg [.sl y5_0, .sl y5_1, .sl y5_2], .agg [.sl y11_0, .sl y11_1, .sl y11_2]] H).run =
  cond (decide (x49 < x48))
  ((ixA x47 x49 1).bind fun o16 =>
   (rdB H x47.b).bind fun c17 =>
   (intAt .i64 c17 o16).bind fun n18 =>
   (C (.fn F.iaxisOf) [.agg [.sl y5_0, .sl y5_1, .sl y5_2], .sc (.int .i64 n18)] (reserve H 1)).bind fun r19 =>
   (oneP r19.vs).bind fun p20 =>
   p20.sc?.bind fun c21 =>
   (intAt .i64 [c21] 0).bind fun n22 =>
   (ixA y5_1 n22 1).bind fun o23 =>
   (rdB r19.H y5_1.b).bind fun c24 =>
   (intAt .i64 c24 o23).bind fun n25 =>
   (newAt r19.H (H.length + 0) 1 [.int .i64 n25]).bind fun h26 =>
   (rng h26.2 h26.1 0 (1 * 1)).bind fun l27 =>
   (appB h26.2 1 8 y11_1 l27 1).bind fun m28 =>
   C (.loop F.iSliceTensor 0) [.sc (.sl x47), .sc (.int .i64 x48), .sc (.int .i64 (IntKind.wrap .i64 (x49 + 1))), .agg [.sl y5_0, .sl y5_1, .sl y5_2], .agg [.sl y11_0, .sl m28.1, .sl y11_2]] m28.2)
  (some ⟨2, [.agg [.sl y11_0, .sl y11_1, .sl y11_2]], H⟩) := by kernel_rfl
theorem e_iSliceTensor_1 (C : Oracle) (x14 : Sl) (x15 : Int) (x16 : Sl) (y4_0 y4_1 y4_2 : Int) (y5_0 y5_1 y5_2 y8_0 y8_1 y8_2 y11_0 y11_1 y11_2 : Sl) (H : AH) : (procM P T C (.loop F.iSliceTensor 1) [.sc (.sl x14), .sc (.int .i64 x15), .sc (.sl x16), .agg [.int .i64 y4_0, .int .i64 y4_1, .int .i64 y4_2], .agg [.sl y5_0, .sl y5_1, .sl y5_2], .agg [.sl y8_0, .sl y8_1, .sl y8_2], .agg [.sl y11_0, .sl y11_1, .sl y11_2]] H).run =
  (C (.fn F.idotOf) [.sc (.sl x14), .sc (.sl x16)] H).bind fun r47 =>
  (oneP r47.vs).bind fun p48 =>
  p48.sc?.bind fun c49 =>
  (intAt .i64 [c49] 0).bind fun n50 =>
  (C (.fn F.irawElem) [.agg [.int .i64 y4_0, .int .i64 y4_1, .int .i64 y4_2], .agg [.sl y5_0, .sl y5_1, .sl y5_2], .sc (.int .i64 (IntKind.wrap .i64 (x15 + n50)))] r47.H).bind fun r51 =>
  (oneP r51.vs).bind fun p52 =>
  p52.sc?.bind fun c53 =>
  (slAt [c53] 0).bind fun s54 =>
  (rng r51.H s54.b s54.o (s54.n * 1)).bind fun l55 =>
  (appB r51.H 1 8 y11_2 l55 s54.n).bind fun m56 =>
  (C (.fn F.inextIndex) [.sc (.sl y11_1), .sc (.sl x16)] m56.2).bind fun r57 =>
  (oneP r57.vs).bind fun p58 =>
  p58.sc?.bind fun c59 =>
  (boolAt [c59] 0).bind fun b60 =>
  cond (!b60)
  (some ⟨1, [.sc (.bool true), .agg [.sl y11_0, .sl y11_1, .sl m56.1], .agg [.sl y11_0, .sl y11_1, .sl m56.1]], r57.H⟩)
  (C (.loop F.iSliceTensor 1) [.sc (.sl x14), .sc (.int .i64 x15), .sc (.sl x16), .agg [.int .i64 y4_0, .int .i64 y4_1, .int .i64 y4_2], .agg [.sl y5_0, .sl y5_1, .sl y5_2], .agg [.sl y8_0, .sl y8_1, .sl y8_2], .agg [.sl y11_0, .sl y11_1, .sl m56.1]] r57.H) := by kernel_rfl
theorem e_iSliceTensor (C : Oracle) (a0_0 a0_1 a0_2 : Int) (a1_0 a1_1 a1_2 : Sl) (a2 a3 : Int) (H : AH) : (procM P T C (.fn F.iSliceTensor) [.agg [.int .i64 a0_0, .int .i64 a0_1, .int .i64 a0_2], .agg [.sl a1_0, .sl a1_1, .sl a1_2], .sc (.int .i64 a2), .sc (.int .i64 a3)] H).run =
  (C (.fn F.iTensorOk) [.agg [.int .i64 a0_0, .int .i64 a0_1, .int .i64 a0_2], .agg [.sl a1_0, .sl a1_1, .sl a1_2]] H).bind fun r1 =>
  (oneP r1.vs).bind fun p2 =>
  p2.sc?.bind fun c3 =>
  (boolAt [c3] 0).bind fun b4 =>
  cond (!b4)
  (some ⟨1, [.agg [.sl ⟨0, 0, 0, 0, true⟩, .sl ⟨0, 0, 0, 0, true⟩, .sl ⟨0, 0, 0, 0, true⟩], .sc (.bool false)], r1.H⟩)
  ((C (.fn F.iaxisOf) [.agg [.sl a1_0, .sl a1_1, .sl a1_2], .sc (.int .i64 a2)] r1.H).bind fun r5 =>
   (oneP r5.vs).bind fun p6 =>
   p6.sc?.bind fun c7 =>
   (intAt .i64 [c7] 0).bind fun n8 =>
   cond (decide (n8 < 0))
   (some ⟨1, [.agg [.sl ⟨0, 0, 0, 0, true⟩, .sl ⟨0, 0, 0, 0, true⟩, .sl ⟨0, 0, 0, 0, true⟩], .sc (.bool false)], r5.H⟩)
   (cond (decide (a3 < 0))
    (some ⟨1, [.agg [.sl ⟨0, 0, 0, 0, true⟩, .sl ⟨0, 0, 0, 0, true⟩, .sl ⟨0, 0, 0, 0, true⟩], .sc (.bool false)], r5.H⟩)
    ((ixA a1_1 n8 1).bind fun o9 =>
     (rdB r5.H a1_1.b).bind fun c10 =>
     (intAt .i64 c10 o9).bind fun n11 =>
     cond (decide (a3 ≥ n11))
     (some ⟨1, [.agg [.sl ⟨0, 0, 0, 0, true⟩, .sl ⟨0, 0, 0, 0, true⟩, .sl ⟨0, 0, 0, 0, true⟩], .sc (.bool false)], r5.H⟩)
     ((C (.fn F.iwithoutInt) [.sc (.sl a1_0), .sc (.int .i64 a2)] r5.H).bind fun r12 =>
      (oneP r12.vs).bind fun p13 =>
      p13.sc?.bind fun c14 =>
      (slAt [c14] 0).bind fun s15 =>
      (C (.loop F.iSliceTensor 0) [.sc (.sl s15), .sc (.int .i64 (s15.n : Int)), .sc (.int .i64 0), .agg [.sl a1_0, .sl a1_1, .sl a1_2], .agg [.sl s15, .sl ⟨0, 0, 0, 0, true⟩, .sl ⟨0, 0, 0, 0, true⟩]] r12.H).bind fun r29 =>
      cond (Nat.beq r29.e 2)
      (((nthP r29.vs 0).bind PV.agg?).bind fun l30 =>
       cond (decide (l30.length = 3))
       ((slAt l30 0).bind fun s31 =>
        (slAt l30 1).bind fun s32 =>
        (slAt l30 2).bind fun s33 =>
        (C (.fn F.istridesOf) [.agg [.sl a1_0, .sl a1_1, .sl a1_2], .sc (.sl s31)] r29.H).bind fun r34 =>
        (oneP r34.vs).bind fun p35 =>
        p35.sc?.bind fun c36 =>
        (slAt [c36] 0).bind fun s37 =>
        (newB r34.H 1 [.int .i64 a2]).bind fun h38 =>
        (C (.fn F.istridesOf) [.agg [.sl a1_0, .sl a1_1, .sl a1_2], .sc (.sl ⟨h38.1, 0, 1, 1, true⟩)] h38.2).bind fun r39 =>
        (oneP r39.vs).bind fun p40 =>
        p40.sc?.bind fun c41 =>
        (slAt [c41] 0).bind fun s42 =>
        (ixA s42 0 1).bind fun o43 =>
        (rdB r39.H s42.b).bind fun c44 =>
        (intAt .i64 c44 o43).bind fun n45 =>
        (mkB r39.H 1 8 [.int .i64 0] (s31.n : Int) (s31.n : Int)).bind fun m46 =>
        (C (.loop F.iSliceTensor 1) [.sc (.sl s37), .sc (.int .i64 (IntKind.wrap .i64 (a3 * n45))), .sc (.sl m46.1), .agg [.int .i64 a0_0, .int .i64 a0_1, .int .i64 a0_2], .agg [.sl a1_0, .sl a1_1, .sl a1_2], .agg [.sl ⟨0, 0, 0, 0, true⟩, .sl ⟨0, 0, 0, 0, true⟩, .sl ⟨0, 0, 0, 0, true⟩], .agg [.sl s31, .sl s32, .sl s33]] m46.2).bind fun r61 =>
        cond (Nat.beq r61.e 1)
        ((nthP r61.vs 0).bind fun p62 =>
         p62.sc?.bind fun c63 =>
         (boolAt [c63] 0).bind fun b64 =>
         ((nthP r61.vs 1).bind PV.agg?).bind fun l65 =>
         cond (decide (l65.length = 3))
         ((slAt l65 0).bind fun s66 =>
          (slAt l65 1).bind fun s67 =>
          (slAt l65 2).bind fun s68 =>
          ((nthP r61.vs 2).bind PV.agg?).bind fun l69 =>
          cond (decide (l69.length = 3))
          ((slAt l69 0).bind fun s70 =>
           (slAt l69 1).bind fun s71 =>
           (slAt l69 2).bind fun s72 =>
           some ⟨1, [.agg [.sl s66, .sl s67, .sl s68], .sc (.bool b64)], r61.H⟩)
          (none))
         (none))
        (none))
       (none))
      (none))))) := by kernel_rfl
/- loop.example/g03211/spec.l05Axes -/
theorem e_sl05Axes_0 (C : Oracle) (x0 x1 x17 : Sl) (x18 x19 : Int) (H : AH) : (procM P T C (.loop F.sl05Axes 0) [.sc (.sl x0), .sc (.sl x1), .sc (.sl x17), .sc (.int .i64 x18), .sc (.int .i64 x19)] H).run =
  cond (decide (x19 < x18))
  ((ixA x17 x19 1).bind fun o1 =>
   (rdB H x17.b).bind fun c2 =>
   (intAt .i64 c2 o1).bind fun n3 =>
   (C (.fn F.sl01In) [.sc (.int .i64 n3), .sc (.int .i64 0), .sc (.int .i64 99)] H).bind fun r4 =>
   (oneP r4.vs).bind fun p5 =>
   p5.sc?.bind fun c6 =>
   (boolAt [c6] 0).bind fun b7 =>
   cond (!b7)
   (some ⟨1, [.sc (.bool false)], r4.H⟩)
   ((ixA x1 x19 1).bind fun o8 =>
    (rdB r4.H x1.b).bind fun c9 =>
    (intAt .i64 c9 o8).bind fun n10 =>
    (C (.fn F.sl01In) [.sc (.int .i64 n10), .sc (.int .i64 1), .sc (.int .i64 8)] r4.H).bind fun r11 =>
    (oneP r11.vs).bind fun p12 =>
    p12.sc?.bind fun c13 =>
    (boolAt [c13] 0).bind fun b14 =>
    cond (!b14)
    (some ⟨1, [.sc (.bool false)], r11.H⟩)
    ((slB x0 none (some x19) none 1).bind fun s15 =>
     (C (.fn F.sl05Find) [.sc (.sl s15), .sc (.int .i64 n3)] r11.H).bind fun r16 =>
     (oneP r16.vs).bind fun p17 =>
     p17.sc?.bind fun c18 =>
     (intAt .i64 [c18] 0).bind fun n19 =>
     cond (decide (n19 ≥ 0))
     (some ⟨1, [.sc (.bool false)], r16.H⟩)
     (C (.loop F.sl05Axes 0) [.sc (.sl x0), .sc (.sl x1), .sc (.sl x17), .sc (.int .i64 x18), .sc (.int .i64 (IntKind.wrap .i64 (x19 + 1)))] r16.H))))
  (some ⟨2, [], H⟩) := by kernel_rfl
theorem e_sl05Axes (C : Oracle) (a0 a1 : Sl) (H : AH) : (procM P T C (.fn F.sl05Axes) [.sc (.sl a0), .sc (.sl a1)] H).run =
  cond (decide ((a0.n : Int) > 12))
  (some ⟨1, [.sc (.bool false)], H⟩)
  (cond ((a0.n : Int) != (a1.n : Int))
   (some ⟨1, [.sc (.bool false)], H⟩)
   ((C (.loop F.sl05Axes 0) [.sc (.sl a0), .sc (.sl a1), .sc (.sl a0), .sc (.int .i64 (a0.n : Int)), .sc (.int .i64 0)] H).bind fun r20 =>
    cond (Nat.beq r20.e 1)
    ((nthP r20.vs 0).bind fun p21 =>
     p21.sc?.bind fun c22 =>
     (boolAt [c22] 0).bind fun b23 =>
     some ⟨1, [.sc (.bool b23)], r20.H⟩)
    (cond (Nat.beq r20.e 2)
     (some ⟨1, [.sc (.bool true)], r20.H⟩)
     (none)))) := by kernel_rfl
/- loop.example/g03211/spec.l08Join -/
theorem e_sl08Join_0 (C : Oracle) (x7 x8 x19 : Sl) (x20 x21 : Int) (y3_0 y3_1 y3_2 : Sl) (H : AH) : (procM P T C (.loop F.sl08Join 0) [.sc (.sl x7), .sc (.sl x8), .sc (.sl x19), .sc (.int .i64 x20), .sc (.int .i64 x21), .agg [.sl y3_0, .sl y3_1, .sl y3_2]] H).run =
  cond (decide (x21 < x20))
  ((ixA x19 x21 1).bind fun o9 =>
   (rdB H x19.b).bind fun c10 =>
   (intAt .i64 c10 o9).bind fun n11 =>
   (C (.fn F.sl05Find) [.sc (.sl x7), .sc (.int .i64 n11)] H).bind fun r12 =>
   (oneP r12.vs).bind fun p13 =>
   p13.sc?.bind fun c14 =>
   (intAt .i64 [c14] 0).bind fun n15 =>
   ((cond (decide (n15 ≥ 0))
   ((ixA x8 n15 1).bind fun o16 =>
    (rdB r12.H x8.b).bind fun c17 =>
    (intAt .i64 c17 o16).bind fun n18 =>
    (ixA y3_1 x21 1).bind fun o19 =>
    (rdB r12.H y3_1.b).bind fun c20 =>
    (intAt .i64 c20 o19).bind fun n21 =>
    cond (n18 != n21)
    (some ⟨1, [.sc (.sl ⟨0, 0, 0, 0, true⟩), .sc (.sl ⟨0, 0, 0, 0, true⟩), .sc (.bool false)], r12.H⟩)
    (some ⟨0, [], r12.H⟩))
   (some ⟨0, [], r12.H⟩) : Option Out)).bind fun r22 =>
   cond (Nat.beq r22.e 0)
   (cond (decide (n15 < 0))
    ((newB r22.H 1 [.int .i64 n11]).bind fun h23 =>
     (rng h23.2 h23.1 0 (1 * 1)).bind fun l24 =>
     (appB h23.2 1 8 x7 l24 1).bind fun m25 =>
     (ixA y3_1 x21 1).bind fun o26 =>
     (rdB m25.2 y3_1.b).bind fun c27 =>
     (intAt .i64 c27 o26).bind fun n28 =>
     (newB m25.2 1 [.int .i64 n28]).bind fun h29 =>
     (rng h29.2 h29.1 0 (1 * 1)).bind fun l30 =>
     (appB h29.2 1 8 x8 l30 1).bind fun m31 =>
     C (.loop F.sl08Join 0) [.sc (.sl m25.1), .sc (.sl m31.1), .sc (.sl x19), .sc (.int .i64 x20), .sc (.int .i64 (IntKind.wrap .i64 (x21 + 1))), .agg [.sl y3_0, .sl y3_1, .sl y3_2]] m31.2)
    (C (.loop F.sl08Join 0) [.sc (.sl x7), .sc (.sl x8), .sc (.sl x19), .sc (.int .i64 x20), .sc (.int .i64 (IntKind.wrap .i64 (x21 + 1))), .agg [.sl y3_0, .sl y3_1, .sl y3_2]] r22.H))
   (cond (Nat.beq r22.e 1)
    ((nthP r22.vs 0).bind fun p32 =>
     p32.sc?.bind fun c33 =>
     (slAt [c33] 0).bind fun s34 =>
     (nthP r22.vs 1).bind fun p35 =>
     p35.sc?.bind fun c36 =>
     (slAt [c36] 0).bind fun s37 =>
     (nthP r22.vs 2).bind fun p38 =>
     p38.sc?.bind fun c39 =>
     (boolAt [c39] 0).bind fun b40 =>
     some ⟨1, [.sc (.sl s34), .sc (.sl s37), .sc (.bool b40)], r22.H⟩)
    (none)))
  (some ⟨2, [.sc (.sl x7), .sc (.sl x8)], H⟩) := by kernel_rfl
theorem e_sl08Join (C : Oracle) (a0_0 a0_1 a0_2 a1_0 a1_1 a1_2 : Sl) (H : AH) : (procM P T C (.fn F.sl08Join) [.agg [.sl a0_0, .sl a0_1, .sl a0_2], .agg [.sl a1_0, .sl a1_1, .sl a1_2]] H).run =
  (C (.fn F.sl05Ints) [.sc (.sl a0_0)] H).bind fun r1 =>
  (oneP r1.vs).bind fun p2 =>
  p2.sc?.bind fun c3 =>
  (slAt [c3] 0).bind fun s4 =>
  (C (.fn F.sl05Ints) [.sc (.sl a0_1)] r1.H).bind fun r5 =>
  (oneP r5.vs).bind fun p6 =>
  p6.sc?.bind fun c7 =>
  (slAt [c7] 0).bind fun s8 =>
  (C (.loop F.sl08Join 0) [.sc (.sl s4), .sc (.sl s8), .sc (.sl a1_0), .sc (.int .i64 (a1_0.n : Int)), .sc (.int .i64 0), .agg [.sl a1_0, .sl a1_1, .sl a1_2]] r5.H).bind fun r41 =>
  cond (Nat.beq r41.e 1)
  ((nthP r41.vs 0).bind fun p42 =>
   p42.sc?.bind fun c43 =>
   (slAt [c43] 0).bind fun s44 =>
   (nthP r41.vs 1).bind fun p45 =>
   p45.sc?.bind fun c46 =>
   (slAt [c46] 0).bind fun s47 =>
   (nthP r41.vs 2).bind fun p48 =>
   p48.sc?.bind fun c49 =>
   (boolAt [c49] 0).bind fun b50 =>
   some ⟨1, [.sc (.sl s44), .sc (.sl s47), .sc (.bool b50)], r41.H⟩)
  (cond (Nat.beq r41.e 2)
   ((nthP r41.vs 0).bind fun p51 =>
    p51.sc?.bind fun c52 =>
    (slAt [c52] 0).bind fun s53 =>
    (nthP r41.vs 1).bind fun p54 =>
    p54.sc?.bind fun c55 =>
    (slAt [c55] 0).bind fun s56 =>
    some ⟨1, [.sc (.sl s53), .sc (.sl s56), .sc (.bool true)], r41.H⟩)
   (none)) := by kernel_rfl
/- loop.example/g03211/spec.l08Keep -/
theorem e_sl08Keep_0 (C : Oracle) (x1 x2 x11 : Sl) (x12 x13 : Int) (y7_0 y7_1 y7_2 : Sl) (H : AH) : (procM P T C (.loop F.sl08Keep 0) [.sc (.sl x1), .sc (.sl x2), .sc (.sl x11), .sc (.int .i64 x12), .sc (.int .i64 x13), .agg [.sl y7_0, .sl y7_1, .sl y7_2]] H).run =
  cond (decide (x13 < x12))
  ((ixA x11 x13 1).bind fun o1 =>
   (rdB H x11.b).bind fun c2 =>
   (intAt .i64 c2 o1).bind fun n3 =>
   (C (.fn F.sl05Find) [.sc (.sl x2), .sc (.int .i64 n3)] H).bind fun r4 =>
   (oneP r4.vs).bind fun p5 =>
   p5.sc?.bind fun c6 =>
   (intAt .i64 [c6] 0).bind fun n7 =>
   cond (decide (n7 ≥ 0))
   ((newB r4.H 1 [.int .i64 n3]).bind fun h8 =>
    (rng h8.2 h8.1 0 (1 * 1)).bind fun l9 =>
    (appB h8.2 1 8 y7_0 l9 1).bind fun m10 =>
    (ixA x1 x13 1).bind fun o11 =>
    (rdB (reserve m10.2 1) x1.b).bind fun c12 =>
    (intAt .i64 c12 o11).bind fun n13 =>
    (newAt (reserve m10.2 1) (m10.2.length + 0) 1 [.int .i64 n13]).bind fun h14 =>
    (rng h14.2 h14.1 0 (1 * 1)).bind fun l15 =>
    (appB h14.2 1 8 y7_1 l15 1).bind fun m16 =>
    C (.loop F.sl08Keep 0) [.sc (.sl x1), .sc (.sl x2), .sc (.sl x11), .sc (.int .i64 x12), .sc (.int .i64 (IntKind.wrap .i64 (x13 + 1))), .agg [.sl m10.1, .sl m16.1, .sl y7_2]] m16.2)
   (C (.loop F.sl08Keep 0) [.sc (.sl x1), .sc (.sl x2), .sc (.sl x11), .sc (.int .i64 x12), .sc (.int .i64 (IntKind.wrap .i64 (x13 + 1))), .agg [.sl y7_0, .sl y7_1, .sl y7_2]] r4.H))
  (some ⟨2, [.agg [.sl y7_0, .sl y7_1, .sl y7_2]], H⟩) := by kernel_rfl
theorem e_sl08Keep (C : Oracle) (a0 a1 a2 : Sl) (H : AH) : (procM P T C (.fn F.sl08Keep) [.sc (.sl a0), .sc (.sl a1), .sc (.sl a2)] H).run =
  (C (.loop F.sl08Keep 0) [.sc (.sl a1), .sc (.sl a2), .sc (.sl a0), .sc (.int .i64 (a0.n : Int)), .sc (.int .i64 0), .agg [.sl ⟨0, 0, 0, 0, true⟩, .sl ⟨0, 0, 0, 0, true⟩, .sl ⟨0, 0, 0, 0, true⟩]] H).bind fun r17 =>
  cond (Nat.beq r17.e 2)
  (((nthP r17.vs 0).bind PV.agg?).bind fun l18 =>
   cond (decide (l18.length = 3))
   ((slAt l18 0).bind fun s19 =>
    (slAt l18 1).bind fun s20 =>
    (slAt l18 2).bind fun s21 =>
    some ⟨1, [.agg [.sl s19, .sl s20, .sl s21]], r17.H⟩)
   (none))
  (none) := by kernel_rfl
/- loop.example/g03211/spec.l17Keep -/
theorem e_sl17Keep_0 (C : Oracle) (x0b x0o : Nat) (x2 x3 : Int) (x9 x17 : Sl) (x18 x19 : Int) (H : AH) : (procM P T C (.loop F.sl17Keep 0) [.sc (.hp x0b x0o), .sc (.int .i64 x2), .sc (.int .i64 x3), .sc (.sl x9), .sc (.sl x17), .sc (.int .i64 x18), .sc (.int .i64 x19)] H).run =
  cond (decide (x19 < x18))
  ((ixA x17 x19 3).bind fun o7 =>
   (rdB H x17.b).bind fun c8 =>
   (slAt c8 o7).bind fun s9 =>
   (slAt c8 (o7 + 1)).bind fun s10 =>
   (slAt c8 (o7 + 1 + 1)).bind fun s11 =>
   (((rdB H x0b).bind fun c12 =>
   (slAt c12 (x0o + 1)).bind fun s13 =>
   (ixA s13 x19 1).bind fun o14 =>
   (rdB H s13.b).bind fun c15 =>
   (boolAt c15 o14).bind fun b16 =>
   cond (!b16)
   (cond (x19 != x2)
    (some ⟨0, [.sc (.bool (x19 != x3))], H⟩)
    (some ⟨0, [.sc (.bool false)], H⟩))
   (some ⟨0, [.sc (.bool false)], H⟩) : Option Out)).bind fun r17 =>
   cond (Nat.beq r17.e 0)
   ((nthP r17.vs 0).bind fun p18 =>
    p18.sc?.bind fun c19 =>
    (boolAt [c19] 0).bind fun b20 =>
    cond b20
    ((rng r17.H s9.b s9.o (s9.n * 1)).bind fun l21 =>
     (appB r17.H 1 8 x9 l21 s9.n).bind fun m22 =>
     C (.loop F.sl17Keep 0) [.sc (.hp x0b x0o), .sc (.int .i64 x2), .sc (.int .i64 x3), .sc (.sl m22.1), .sc (.sl x17), .sc (.int .i64 x18), .sc (.int .i64 (IntKind.wrap .i64 (x19 + 1)))] m22.2)
    (C (.loop F.sl17Keep 0) [.sc (.hp x0b x0o), .sc (.int .i64 x2), .sc (.int .i64 x3), .sc (.sl x9), .sc (.sl x17), .sc (.int .i64 x18), .sc (.int .i64 (IntKind.wrap .i64 (x19 + 1)))] r17.H))
   (none))
  (some ⟨2, [.sc (.sl x9)], H⟩) := by kernel_rfl
theorem e_sl17Keep (C : Oracle) (a0b a0o : Nat) (a1 : Sl) (a2 a3 : Int) (H : AH) : (procM P T C (.fn F.sl17Keep) [.sc (.hp a0b a0o), .sc (.sl a1), .sc (.int .i64 a2), .sc (.int .i64 a3)] H).run =
  (C (.fn F.sl05Ints) [.sc (.sl a1)] H).bind fun r1 =>
  (oneP r1.vs).bind fun p2 =>
  p2.sc?.bind fun c3 =>
  (slAt [c3] 0).bind fun s4 =>
  (rdB r1.H a0b).bind fun c5 =>
  (slAt c5 (a0o + 0)).bind fun s6 =>
  (C (.loop F.sl17Keep 0) [.sc (.hp a0b a0o), .sc (.int .i64 a2), .sc (.int .i64 a3), .sc (.sl s4), .sc (.sl s6), .sc (.int .i64 (s6.n : Int)), .sc (.int .i64 0)] r1.H).bind fun r23 =>
  cond (Nat.beq r23.e 2)
  ((nthP r23.vs 0).bind fun p24 =>
   p24.sc?.bind fun c25 =>
   (slAt [c25] 0).bind fun s26 =>
   some ⟨1, [.sc (.sl s26)], r23.H⟩)
  (none) := by kernel_rfl
/- (*loop.example/g03211/impl.orderState).resultLabels -/
theorem e_x__impl_orderState__resultLabels_0 (C : Oracle) (x0b x0o : Nat) (x1 x2 : Int) (x7 x29 : Sl) (x30 x31 : Int) (H : AH) : (procM P T C (.loop F.x__impl_orderState__resultLabels 0) [.sc (.hp x0b x0o), .sc (.int .i64 x1), .sc (.int .i64 x2), .sc (.sl x7), .sc (.sl x29), .sc (.int .i64 x30), .sc (.int .i64 x31)] H).run =
  cond (decide (x31 < x30))
  ((ixA x29 x31 1).bind fun o15 =>
   (rdB H x29.b).bind fun c16 =>
   (intAt .i64 c16 o15).bind fun n17 =>
   (rdB H x0b).bind fun c18 =>
   (slAt c18 (x0o + 100)).bind fun s19 =>
   (C (.fn F.ihasInt) [.sc (.sl s19), .sc (.int .i64 n17)] H).bind fun r20 =>
   (oneP r20.vs).bind fun p21 =>
   p21.sc?.bind fun c22 =>
   (boolAt [c22] 0).bind fun b23 =>
   (rdB r20.H x0b).bind fun c24 =>
   (slAt c24 (x0o + 101)).bind fun s25 =>
   (C (.loop F.x__impl_orderState__resultLabels 1) [.sc (.int .i64 x1), .sc (.int .i64 x2), .sc (.int .i64 n17), .sc (.bool b23), .sc (.sl s25), .sc (.int .i64 (s25.n : Int)), .sc (.int .i64 0)] r20.H).bind fun r34 =>
   cond (Nat.beq r34.e 4)
   ((nthP r34.vs 0).bind fun p35 =>
    p35.sc?.bind fun c36 =>
    (boolAt [c36] 0).bind fun b37 =>
    cond b37
    ((newB r34.H 1 [.int .i64 n17]).bind fun h38 =>
     (rng h38.2 h38.1 0 (1 * 1)).bind fun l39 =>
     (appB h38.2 1 8 x7 l39 1).bind fun m40 =>
     C (.loop F.x__impl_orderState__resultLabels 0) [.sc (.hp x0b x0o), .sc (.int .i64 x1), .sc (.int .i64 x2), .sc (.sl m40.1), .sc (.sl x29), .sc (.int .i64 x30), .sc (.int .i64 (IntKind.wrap .i64 (x31 + 1)))] m40.2)
    (C (.loop F.x__impl_orderState__resultLabels 0) [.sc (.hp x0b x0o), .sc (.int .i64 x1), .sc (.int .i64 x2), .sc (.sl x7), .sc (.sl x29), .sc (.int .i64 x30), .sc (.int .i64 (IntKind.wrap .i64 (x31 + 1)))] r34.H))
   (none))
  (some ⟨2, [.sc (.sl x7)], H⟩) := by kernel_rfl
theorem e_x__impl_orderState__resultLabels_1 (C : Oracle) (x1 x2 x9 : Int) (x10 : Bool) (x44 : Sl) (x45 x46 : Int) (H : AH) : (procM P T C (.loop F.x__impl_orderState__resultLabels 1) [.sc (.int .i64 x1), .sc (.int .i64 x2), .sc (.int .i64 x9), .sc (.bool x10), .sc (.sl x44), .sc (.int .i64 x45), .sc (.int .i64 x46)] H).run =
  cond (decide (x46 < x45))
  ((ixA x44 x46 2).bind fun o26 =>
   (rdB H x44.b).bind fun c27 =>
   (intAt .i64 c27 o26).bind fun n28 =>
   (slAt c27 (o26 + 1)).bind fun s29 =>
   cond (x46 != x1)
   (cond (x46 != x2)
    ((C (.fn F.ihasInt) [.sc (.sl s29), .sc (.int .i64 x9)] H).bind fun r30 =>
     (oneP r30.vs).bind fun p31 =>
     p31.sc?.bind fun c32 =>
     (boolAt [c32] 0).bind fun b33 =>
     cond b33
     (C (.loop F.x__impl_orderState__resultLabels 1) [.sc (.int .i64 x1), .sc (.int .i64 x2), .sc (.int .i64 x9), .sc (.bool true), .sc (.sl x44), .sc (.int .i64 x45), .sc (.int .i64 (IntKind.wrap .i64 (x46 + 1)))] r30.H)
     (C (.loop F.x__impl_orderState__resultLabels 1) [.sc (.int .i64 x1), .sc (.int .i64 x2), .sc (.int .i64 x9), .sc (.bool x10), .sc (.sl x44), .sc (.int .i64 x45), .sc (.int .i64 (IntKind.wrap .i64 (x46 + 1)))] r30.H))
    (C (.loop F.x__impl_orderState__resultLabels 1) [.sc (.int .i64 x1), .sc (.int .i64 x2), .sc (.int .i64 x9), .sc (.bool x10), .sc (.sl x44), .sc (.int .i64 x45), .sc (.int .i64 (IntKind.wrap .i64 (x46 + 1)))] H))
   (C (.loop F.x__impl_orderState__resultLabels 1) [.sc (.int .i64 x1), .sc (.int .i64 x2), .sc (.int .i64 x9), .sc (.bool x10), .sc (.sl x44), .sc (.int .i64 x45), .sc (.int .i64 (IntKind.wrap .i64 (x46 + 1)))] H))
  (some ⟨4, [.sc (.bool x10)], H⟩) := by kernel_rfl
theorem e_x__impl_orderState__resultLabels (C : Oracle) (a0b a0o : Nat) (a1 a2 : Int) (H : AH) : (procM P T C (.fn F.x__impl_orderState__resultLabels) [.sc (.hp a0b a0o), .sc (.int .i64 a1), .sc (.int .i64 a2)] H).run =
  (rdB H a0b).bind fun c1 =>
  (slAt c1 (a0o + 101)).bind fun s2 =>
  (ixA s2 a1 2).bind fun o3 =>
  (rdB H s2.b).bind fun c4 =>
  (slAt c4 (o3 + 1)).bind fun s5 =>
  (rdB H a0b).bind fun c6 =>
  (slAt c6 (a0o + 101)).bind fun s7 =>
  (ixA s7 a2 2).bind fun o8 =>
  (rdB H s7.b).bind fun c9 =>
  (slAt c9 (o8 + 1)).bind fun s10 =>
  (C (.fn F.ijoinLabels) [.sc (.sl s5), .sc (.sl s10)] H).bind fun r11 =>
  (oneP r11.vs).bind fun p12 =>
  p12.sc?.bind fun c13 =>
  (slAt [c13] 0).bind fun s14 =>
  (C (.loop F.x__impl_orderState__resultLabels 0) [.sc (.hp a0b a0o), .sc (.int .i64 a1), .sc (.int .i64 a2), .sc (.sl ⟨0, 0, 0, 0, true⟩), .sc (.sl s14), .sc (.int .i64 (s14.n : Int)), .sc (.int .i64 0)] r11.H).bind fun r41 =>
  cond (Nat.beq r41.e 2)
  ((nthP r41.vs 0).bind fun p42 =>
   p42.sc?.bind fun c43 =>
   (slAt [c43] 0).bind fun s44 =>
   some ⟨1, [.sc (.sl s44)], r41.H⟩)
  (none) := by kernel_rfl
/- loop.example/g03211/spec.l02Width -/
theorem e_sl02Width (C : Oracle) (a0_0 a0_1 a0_2 : Int) (H : AH) : (procM P T C (.fn F.sl02Width) [.agg [.int .i64 a0_0, .int .i64 a0_1, .int .i64 a0_2]] H).run =
  cond (a0_0 == 7)
  (some ⟨1, [.sc (.int .i64 a0_2)], H⟩)
  (cond (a0_0 == 8)
   (some ⟨1, [.sc (.int .i64 4)], H⟩)
   (some ⟨1, [.sc (.int .i64 1)], H⟩)) := by kernel_rfl
/- loop.example/g03211/spec.l02Top -/
theorem e_sl02Top (C : Oracle) (a0_0 a0_1 a0_2 : Int) (H : AH) : (procM P T C (.fn F.sl02Top) [.agg [.int .i64 a0_0, .int .i64 a0_1, .int .i64 a0_2]] H).run =
  cond (a0_0 == 1)
  (some ⟨1, [.sc (.int .i64 1)], H⟩)
  (((cond (a0_0 == 3)
   (some ⟨0, [.sc (.bool (a0_0 == 3))], H⟩)
   (cond (a0_0 == 4)
    (some ⟨0, [.sc (.bool (a0_0 == 4))], H⟩)
    (some ⟨0, [.sc (.bool (a0_0 == 5))], H⟩)) : Option Out)).bind fun r1 =>
   cond (Nat.beq r1.e 0)
   ((nthP r1.vs 0).bind fun p2 =>
    p2.sc?.bind fun c3 =>
    (boolAt [c3] 0).bind fun b4 =>
    cond b4
    (some ⟨1, [.sc (.int .i64 a0_1)], r1.H⟩)
    (cond (a0_0 == 6)
     (cond (decide (a0_2 < 0))
      (none)
      (some ⟨1, [.sc (.int .i64 (IntKind.wrap .i64 ((shlL .i64 1 a0_2) - 1)))], r1.H⟩))
     (some ⟨1, [.sc (.int .i64 (IntKind.wrap .i64 (a0_1 - 1)))], r1.H⟩)))
   (none)) := by kernel_rfl
/- loop.example/g03211/spec.l05Index -/
theorem e_sl05Index_0 (C : Oracle) (x0 : Sl) (x1 : Int) (x5 : Sl) (x6 : Int) (H : AH) : (procM P T C (.loop F.sl05Index 0) [.sc (.sl x0), .sc (.int .i64 x1), .sc (.sl x5), .sc (.int .i64 x6)] H).run =
  cond (decide (x6 ≥ 0))
  ((ixA x0 x6 1).bind fun o2 =>
   (rdB H x0.b).bind fun c3 =>
   (intAt .i64 c3 o2).bind fun n4 =>
   cond (n4 == 0)
   (none)
   ((ixA x5 x6 1).bind fun o5 =>
    (putR H x5.b o5 [.int .i64 (Int.tmod x1 n4)]).bind fun H6 =>
    (ixA x0 x6 1).bind fun o7 =>
    (rdB H6 x0.b).bind fun c8 =>
    (intAt .i64 c8 o7).bind fun n9 =>
    cond (n9 == 0)
    (none)
    (C (.loop F.sl05Index 0) [.sc (.sl x0), .sc (.int .i64 (IntKind.wrap .i64 (Int.tdiv x1 n9))), .sc (.sl x5), .sc (.int .i64 (IntKind.wrap .i64 (x6 - 1)))] H6)))
  (some ⟨2, [], H⟩) := by kernel_rfl
theorem e_sl05Index (C : Oracle) (a0 : Sl) (a1 : Int) (H : AH) : (procM P T C (.fn F.sl05Index) [.sc (.sl a0), .sc (.int .i64 a1)] H).run =
  (mkB H 1 8 [.int .i64 0] (a0.n : Int) (a0.n : Int)).bind fun m1 =>
  (C (.loop F.sl05Index 0) [.sc (.sl a0), .sc (.int .i64 a1), .sc (.sl m1.1), .sc (.int .i64 (IntKind.wrap .i64 ((a0.n : Int) - 1)))] m1.2).bind fun r10 =>
  cond (Nat.beq r10.e 2)
  (some ⟨1, [.sc (.sl m1.1)], r10.H⟩)
  (none) := by kernel_rfl
/- loop.example/g03211/spec.l05Get -/
theorem e_sl05Get (C : Oracle) (a0_0 a0_1 a0_2 : Int) (a1_0 a1_1 a1_2 : Sl) (a2 : Int) (H : AH) : (procM P T C (.fn F.sl05Get) [.agg [.int .i64 a0_0, .int .i64 a0_1, .int .i64 a0_2], .agg [.sl a1_0, .sl a1_1, .sl a1_2], .sc (.int .i64 a2)] H).run =
  (C (.fn F.sl02Width) [.agg [.int .i64 a0_0, .int .i64 a0_1, .int .i64 a0_2]] H).bind fun r1 =>
  (oneP r1.vs).bind fun p2 =>
  p2.sc?.bind fun c3 =>
  (intAt .i64 [c3] 0).bind fun n4 =>
  (newB r1.H 1 []).bind fun h5 =>
  (slB a1_2 (some (IntKind.wrap .i64 (a2 * n4))) (some (IntKind.wrap .i64 ((IntKind.wrap .i64 (a2 * n4)) + n4))) none 1).bind fun s6 =>
  (rng h5.2 s6.b s6.o (s6.n * 1)).bind fun l7 =>
  (appB h5.2 1 8 ⟨h5.1, 0, 0, 0, true⟩ l7 s6.n).bind fun m8 =>
  some ⟨1, [.sc (.sl m8.1)], m8.2⟩ := by kernel_rfl
/- loop.example/g03211/impl.rawWidth -/
theorem e_irawWidth (C : Oracle) (a0_0 a0_1 a0_2 : Int) (H : AH) : (procM P T C (.fn F.irawWidth) [.agg [.int .i64 a0_0, .int .i64 a0_1, .int .i64 a0_2]] H).run =
  cond (a0_0 == 7)
  (some ⟨1, [.sc (.int .i64 a0_2)], H⟩)
  (cond (a0_0 == 8)
   (some ⟨1, [.sc (.int .i64 4)], H⟩)
   (some ⟨1, [.sc (.int .i64 1)], H⟩)) := by kernel_rfl
/- loop.example/g03211/impl.inRing -/
theorem e_iinRing_0 (C : Oracle) (x5 : Int) (x10 : Sl) (x11 x12 : Int) (H : AH) : (procM P T C (.loop F.iinRing 0) [.sc (.int .i64 x5), .sc (.sl x10), .sc (.int .i64 x11), .sc (.int .i64 x12)] H).run =
  cond (decide (x12 < x11))
  ((ixA x10 x12 1).bind fun o5 =>
   (rdB H x10.b).bind fun c6 =>
   (intAt .i64 c6 o5).bind fun n7 =>
   cond (decide (n7 < 0))
   (some ⟨1, [.sc (.bool false)], H⟩)
   (cond (decide (n7 > x5))
    (some ⟨1, [.sc (.bool false)], H⟩)
    (C (.loop F.iinRing 0) [.sc (.int .i64 x5), .sc (.sl x10), .sc (.int .i64 x11), .sc (.int .i64 (IntKind.wrap .i64 (x12 + 1)))] H)))
  (some ⟨2, [], H⟩) := by kernel_rfl
theorem e_iinRing (C : Oracle) (a0_0 a0_1 a0_2 : Int) (a1 : Sl) (H : AH) : (procM P T C (.fn F.iinRing) [.agg [.int .i64 a0_0, .int .i64 a0_1, .int .i64 a0_2], .sc (.sl a1)] H).run =
  (C (.fn F.irawTop) [.agg [.int .i64 a0_0, .int .i64 a0_1, .int .i64 a0_2]] H).bind fun r1 =>
  (oneP r1.vs).bind fun p2 =>
  p2.sc?.bind fun c3 =>
  (intAt .i64 [c3] 0).bind fun n4 =>
  (C (.loop F.iinRing 0) [.sc (.int .i64 n4), .sc (.sl a1), .sc (.int .i64 (a1.n : Int)), .sc (.int .i64 0)] r1.H).bind fun r8 =>
  cond (Nat.beq r8.e 1)
  ((nthP r8.vs 0).bind fun p9 =>
   p9.sc?.bind fun c10 =>
   (boolAt [c10] 0).bind fun b11 =>
   some ⟨1, [.sc (.bool b11)], r8.H⟩)
  (cond (Nat.beq r8.e 2)
   (some ⟨1, [.sc (.bool true)], r8.H⟩)
   (none)) := by kernel_rfl
/- loop.example/g03211/impl.occurring -/
theorem e_ioccurring_0 (C : Oracle) (x3 : Sl) (x6 : List Sc) (x7 : Int) (H : AH) : (procM P T C (.loop F.ioccurring 0) [.sc (.sl x3), .agg x6, .sc (.int .i64 x7)] H).run =
  cond (decide (x7 < 100))
  ((ixA ⟨0, 0, 100, 100, true⟩ x7 1).bind fun o1 =>
   (intAt .i64 x6 o1).bind fun n2 =>
   cond (n2 != 0)
   ((newB H 1 [.int .i64 x7]).bind fun h3 =>
    (rng h3.2 h3.1 0 (1 * 1)).bind fun l4 =>
    (appB h3.2 1 8 x3 l4 1).bind fun m5 =>
    C (.loop F.ioccurring 0) [.sc (.sl m5.1), .agg x6, .sc (.int .i64 (IntKind.wrap .i64 (x7 + 1)))] m5.2)
   (C (.loop F.ioccurring 0) [.sc (.sl x3), .agg x6, .sc (.int .i64 (IntKind.wrap .i64 (x7 + 1)))] H))
  (some ⟨2, [.sc (.sl x3)], H⟩) := by kernel_rfl
theorem e_ioccurring (C : Oracle) (a0 : List Sc) (H : AH) : (procM P T C (.fn F.ioccurring) [.agg a0] H).run =
  cond (decide (100 ≤ a0.length))
  ((C (.loop F.ioccurring 0) [.sc (.sl ⟨0, 0, 0, 0, true⟩), .agg ((a0.drop 0).take 100), .sc (.int .i64 0)] H).bind fun r6 =>
   cond (Nat.beq r6.e 2)
   ((nthP r6.vs 0).bind fun p7 =>
    p7.sc?.bind fun c8 =>
    (slAt [c8] 0).bind fun s9 =>
    some ⟨1, [.sc (.sl s9)], r6.H⟩)
   (none))
  (none) := by kernel_rfl
/- loop.example/g03211/impl.stridesOf -/
theorem e_istridesOf_0 (C : Oracle) (x1 x5 : Sl) (x6 x7 : Int) (y2_0 y2_1 y2_2 : Sl) (H : AH) : (procM P T C (.loop F.istridesOf 0) [.sc (.sl x1), .sc (.sl x5), .sc (.int .i64 x6), .sc (.int .i64 x7), .agg [.sl y2_0, .sl y2_1, .sl y2_2]] H).run =
  cond (decide (x7 ≥ 0))
  ((C (.loop F.istridesOf 1) [.sc (.sl x5), .sc (.int .i64 x6), .sc (.int .i64 x7), .sc (.sl x1), .sc (.int .i64 (x1.n : Int)), .sc (.int .i64 0), .agg [.sl y2_0, .sl y2_1, .sl y2_2]] H).bind fun r10 =>
   cond (Nat.beq r10.e 4)
   ((ixA y2_1 x7 1).bind fun o11 =>
    (rdB r10.H y2_1.b).bind fun c12 =>
    (intAt .i64 c12 o11).bind fun n13 =>
    C (.loop F.istridesOf 0) [.sc (.sl x1), .sc (.sl x5), .sc (.int .i64 (IntKind.wrap .i64 (x6 * n13))), .sc (.int .i64 (IntKind.wrap .i64 (x7 - 1))), .agg [.sl y2_0, .sl y2_1, .sl y2_2]] r10.H)
   (none))
  (some ⟨2, [], H⟩) := by kernel_rfl
theorem e_istridesOf_1 (C : Oracle) (x5 : Sl) (x6 x7 : Int) (x21 : Sl) (x22 x23 : Int) (y2_0 y2_1 y2_2 : Sl) (H : AH) : (procM P T C (.loop F.istridesOf 1) [.sc (.sl x5), .sc (.int .i64 x6), .sc (.int .i64 x7), .sc (.sl x21), .sc (.int .i64 x22), .sc (.int .i64 x23), .agg [.sl y2_0, .sl y2_1, .sl y2_2]] H).run =
  cond (decide (x23 < x22))
  ((ixA x21 x23 1).bind fun o2 =>
   (rdB H x21.b).bind fun c3 =>
   (intAt .i64 c3 o2).bind fun n4 =>
   (ixA y2_0 x7 1).bind fun o5 =>
   (rdB H y2_0.b).bind fun c6 =>
   (intAt .i64 c6 o5).bind fun n7 =>
   cond (n4 == n7)
   ((ixA x5 x23 1).bind fun o8 =>
    (putR H x5.b o8 [.int .i64 x6]).bind fun H9 =>
    C (.loop F.istridesOf 1) [.sc (.sl x5), .sc (.int .i64 x6), .sc (.int .i64 x7), .sc (.sl x21), .sc (.int .i64 x22), .sc (.int .i64 (IntKind.wrap .i64 (x23 + 1))), .agg [.sl y2_0, .sl y2_1, .sl y2_2]] H9)
   (C (.loop F.istridesOf 1) [.sc (.sl x5), .sc (.int .i64 x6), .sc (.int .i64 x7), .sc (.sl x21), .sc (.int .i64 x22), .sc (.int .i64 (IntKind.wrap .i64 (x23 + 1))), .agg [.sl y2_0, .sl y2_1, .sl y2_2]] H))
  (some ⟨4, [], H⟩) := by kernel_rfl
theorem e_istridesOf (C : Oracle) (a0_0 a0_1 a0_2 a1 : Sl) (H : AH) : (procM P T C (.fn F.istridesOf) [.agg [.sl a0_0, .sl a0_1, .sl a0_2], .sc (.sl a1)] H).run =
  (mkB H 1 8 [.int .i64 0] (a1.n : Int) (a1.n : Int)).bind fun m1 =>
  (C (.loop F.istridesOf 0) [.sc (.sl a1), .sc (.sl m1.1), .sc (.int .i64 1), .sc (.int .i64 (IntKind.wrap .i64 ((a0_1.n : Int) - 1))), .agg [.sl a0_0, .sl a0_1, .sl a0_2]] m1.2).bind fun r14 =>
  cond (Nat.beq r14.e 2)
  (some ⟨1, [.sc (.sl m1.1)], r14.H⟩)
  (none) := by kernel_rfl
/- loop.example/g03211/impl.rawElem -/
theorem e_irawElem (C : Oracle) (a0_0 a0_1 a0_2 : Int) (a1_0 a1_1 a1_2 : Sl) (a2 : Int) (H : AH) : (procM P T C (.fn F.irawElem) [.agg [.int .i64 a0_0, .int .i64 a0_1, .int .i64 a0_2], .agg [.sl a1_0, .sl a1_1, .sl a1_2], .sc (.int .i64 a2)] H).run =
  (C (.fn F.irawWidth) [.agg [.int .i64 a0_0, .int .i64 a0_1, .int .i64 a0_2]] H).bind fun r1 =>
  (oneP r1.vs).bind fun p2 =>
  p2.sc?.bind fun c3 =>
  (intAt .i64 [c3] 0).bind fun n4 =>
  (slB a1_2 (some (IntKind.wrap .i64 (a2 * n4))) (some (IntKind.wrap .i64 ((IntKind.wrap .i64 (a2 + 1)) * n4))) none 1).bind fun s5 =>
  some ⟨1, [.sc (.sl s5)], r1.H⟩ := by kernel_rfl
/- loop.example/g03211/impl.dotOf -/
theorem e_idotOf_0 (C : Oracle) (x0 x1 : Sl) (x5 x8 x9 : Int) (H : AH) : (procM P T C (.loop F.idotOf 0) [.sc (.sl x0), .sc (.sl x1), .sc (.int .i64 x5), .sc (.int .i64 x8), .sc (.int .i64 x9)] H).run =
  cond (decide (x9 < x8))
  ((ixA x0 x9 1).bind fun o1 =>
   (rdB H x0.b).bind fun c2 =>
   (intAt .i64 c2 o1).bind fun n3 =>
   (ixA x1 x9 1).bind fun o4 =>
   (rdB H x1.b).bind fun c5 =>
   (intAt .i64 c5 o4).bind fun n6 =>
   C (.loop F.idotOf 0) [.sc (.sl x0), .sc (.sl x1), .sc (.int .i64 (IntKind.wrap .i64 (x5 + (IntKind.wrap .i64 (n3 * n6))))), .sc (.int .i64 x8), .sc (.int .i64 (IntKind.wrap .i64 (x9 + 1)))] H)
  (some ⟨2, [.sc (.int .i64 x5)], H⟩) := by kernel_rfl
theorem e_idotOf (C : Oracle) (a0 a1 : Sl) (H : AH) : (procM P T C (.fn F.idotOf) [.sc (.sl a0), .sc (.sl a1)] H).run =
  (C (.loop F.idotOf 0) [.sc (.sl a0), .sc (.sl a1), .sc (.int .i64 0), .sc (.int .i64 (a0.n : Int)), .sc (.int .i64 0)] H).bind fun r7 =>
  cond (Nat.beq r7.e 2)
  ((nthP r7.vs 0).bind fun p8 =>
   p8.sc?.bind fun c9 =>
   (intAt .i64 [c9] 0).bind fun n10 =>
   some ⟨1, [.sc (.int .i64 n10)], r7.H⟩)
  (none) := by kernel_rfl
/- loop.example/g03211/impl.nextIndex -/
theorem e_inextIndex_0 (C : Oracle) (x0 x1 : Sl) (x5 : Int) (H : AH) : (procM P T C (.loop F.inextIndex 0) [.sc (.sl x0), .sc (.sl x1), .sc (.int .i64 x5)] H).run =
  cond (decide (x5 ≥ 0))
  ((ixA x1 x5 1).bind fun o1 =>
   (rdB H x1.b).bind fun c2 =>
   (intAt .i64 c2 o1).bind fun n3 =>
   (ixA x1 x5 1).bind fun o4 =>
   (putR H x1.b o4 [.int .i64 (IntKind.wrap .i64 (n3 + 1))]).bind fun H5 =>
   (ixA x1 x5 1).bind fun o6 =>
   (rdB H5 x1.b).bind fun c7 =>
   (intAt .i64 c7 o6).bind fun n8 =>
   (ixA x0 x5 1).bind fun o9 =>
   (rdB H5 x0.b).bind fun c10 =>
   (intAt .i64 c10 o9).bind fun n11 =>
   cond (decide (n8 < n11))
   (some ⟨1, [.sc (.bool true)], H5⟩)
   ((ixA x1 x5 1).bind fun o12 =>
    (putR H5 x1.b o12 [.int .i64 0]).bind fun H13 =>
    C (.loop F.inextIndex 0) [.sc (.sl x0), .sc (.sl x1), .sc (.int .i64 (IntKind.wrap .i64 (x5 - 1)))] H13))
  (some ⟨2, [], H⟩) := by kernel_rfl
theorem e_inextIndex (C : Oracle) (a0 a1 : Sl) (H : AH) : (procM P T C (.fn F.inextIndex) [.sc (.sl a0), .sc (.sl a1)] H).run =
  (C (.loop F.inextIndex 0) [.sc (.sl a0), .sc (.sl a1), .sc (.int .i64 (IntKind.wrap .i64 ((a0.n : Int) - 1)))] H).bind fun r14 =>
  cond (Nat.beq r14.e 1)
  ((nthP r14.vs 0).bind fun p15 =>
   p15.sc?.bind fun c16 =>
   (boolAt [c16] 0).bind fun b17 =>
   some ⟨1, [.sc (.bool b17)], r14.H⟩)
  (cond (Nat.beq r14.e 2)
   (some ⟨1, [.sc (.bool false)], r14.H⟩)
   (none)) := by kernel_rfl
/- loop.example/g03211/impl.rawTop -/
theorem e_irawTop (C : Oracle) (a0_0 a0_1 a0_2 : Int) (H : AH) : (procM P T C (.fn F.irawTop) [.agg [.int .i64 a0_0, .int .i64 a0_1, .int .i64 a0_2]] H).run =
  cond (a0_0 == 1)
  (some ⟨1, [.sc (.int .i64 1)], H⟩)
  (((cond (a0_0 == 3)
   (some ⟨0, [.sc (.bool (a0_0 == 3))], H⟩)
   (cond (a0_0 == 4)
    (some ⟨0, [.sc (.bool (a0_0 == 4))], H⟩)
    (some ⟨0, [.sc (.bool (a0_0 == 5))], H⟩)) : Option Out)).bind fun r1 =>
   cond (Nat.beq r1.e 0)
   ((nthP r1.vs 0).bind fun p2 =>
    p2.sc?.bind fun c3 =>
    (boolAt [c3] 0).bind fun b4 =>
    cond b4
    (some ⟨1, [.sc (.int .i64 a0_1)], r1.H⟩)
    (cond (a0_0 == 6)
     (cond (decide (a0_2 < 0))
      (none)
      (some ⟨1, [.sc (.int .i64 (IntKind.wrap .i64 ((shlL .i64 1 a0_2) - 1)))], r1.H⟩))
     (some ⟨1, [.sc (.int .i64 (IntKind.wrap .i64 (a0_1 - 1)))], r1.H⟩)))
   (none)) := by kernel_rfl
end Go.Abs
