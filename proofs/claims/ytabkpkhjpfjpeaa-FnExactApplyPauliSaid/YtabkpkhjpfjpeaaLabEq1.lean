/- Part of the proof of FnExactApplyPauli: that for every input the law answers true and leaves what it reads as it was. Conditions: none beyond the given statement. -/
import Derived.Test.YtabkpkhjpfjpeaaLabTab
import Derived.KernelRfl
set_option linter.all false
/- The equations of the functions: what the abstract interpreter makes of their code. -/
namespace Go.Abs
set_option maxRecDepth 100000
set_option linter.unusedVariables false
/- loop.example/g03211/spec.l06Names -/
theorem e_sl06Names_0 (C : Oracle) (x1 x2 x7 x13 : Sl) (x14 x15 : Int) (H : AH) : (procM P T C (.loop F.sl06Names 0) [.sc (.sl x1), .sc (.sl x2), .sc (.sl x7), .sc (.sl x13), .sc (.int .i64 x14), .sc (.int .i64 x15)] H).run =
  cond (decide (x15 < x14))
  ((ixA x13 x15 1).bind fun o5 =>
   (rdB H x13.b).bind fun c6 =>
   (intAt .i64 c6 o5).bind fun n7 =>
   (C (.fn F.sl05Find) [.sc (.sl x1), .sc (.int .i64 n7)] H).bind fun r8 =>
   (oneP r8.vs).bind fun p9 =>
   p9.sc?.bind fun c10 =>
   (intAt .i64 [c10] 0).bind fun n11 =>
   cond (decide (n11 ≥ 0))
   ((ixA x2 n11 1).bind fun o12 =>
    (rdB r8.H x2.b).bind fun c13 =>
    (intAt .i64 c13 o12).bind fun n14 =>
    (ixA x7 x15 1).bind fun o15 =>
    (putR r8.H x7.b o15 [.int .i64 n14]).bind fun H16 =>
    C (.loop F.sl06Names 0) [.sc (.sl x1), .sc (.sl x2), .sc (.sl x7), .sc (.sl x13), .sc (.int .i64 x14), .sc (.int .i64 (IntKind.wrap .i64 (x15 + 1)))] H16)
   (C (.loop F.sl06Names 0) [.sc (.sl x1), .sc (.sl x2), .sc (.sl x7), .sc (.sl x13), .sc (.int .i64 x14), .sc (.int .i64 (IntKind.wrap .i64 (x15 + 1)))] r8.H))
  (some ⟨2, [], H⟩) := by kernel_rfl
theorem e_sl06Names (C : Oracle) (a0 a1 a2 : Sl) (H : AH) : (procM P T C (.fn F.sl06Names) [.sc (.sl a0), .sc (.sl a1), .sc (.sl a2)] H).run =
  (C (.fn F.sl05Ints) [.sc (.sl a0)] H).bind fun r1 =>
  (oneP r1.vs).bind fun p2 =>
  p2.sc?.bind fun c3 =>
  (slAt [c3] 0).bind fun s4 =>
  (C (.loop F.sl06Names 0) [.sc (.sl a1), .sc (.sl a2), .sc (.sl s4), .sc (.sl a0), .sc (.int .i64 (a0.n : Int)), .sc (.int .i64 0)] r1.H).bind fun r17 =>
  cond (Nat.beq r17.e 2)
  (some ⟨1, [.sc (.sl s4)], r17.H⟩)
  (none) := by kernel_rfl
/- loop.example/g03211/spec.l06Permute -/
theorem e_sl06Permute_0 (C : Oracle) (x7 x8 x19 : Sl) (x20 x21 : Int) (y4_0 y4_1 y4_2 : Sl) (H : AH) : (procM P T C (.loop F.sl06Permute 0) [.sc (.sl x7), .sc (.sl x8), .sc (.sl x19), .sc (.int .i64 x20), .sc (.int .i64 x21), .agg [.sl y4_0, .sl y4_1, .sl y4_2]] H).run =
  cond (decide (x21 < x20))
  ((ixA x19 x21 1).bind fun o3 =>
   (rdB H x19.b).bind fun c4 =>
   (intAt .i64 c4 o3).bind fun n5 =>
   (C (.fn F.sl05Find) [.sc (.sl y4_0), .sc (.int .i64 n5)] H).bind fun r6 =>
   (oneP r6.vs).bind fun p7 =>
   p7.sc?.bind fun c8 =>
   (intAt .i64 [c8] 0).bind fun n9 =>
   (newB r6.H 1 [.int .i64 n9]).bind fun h10 =>
   (rng h10.2 h10.1 0 (1 * 1)).bind fun l11 =>
   (appB h10.2 1 8 x8 l11 1).bind fun m12 =>
   (ixA y4_1 n9 1).bind fun o13 =>
   (rdB m12.2 y4_1.b).bind fun c14 =>
   (intAt .i64 c14 o13).bind fun n15 =>
   (newB m12.2 1 [.int .i64 n15]).bind fun h16 =>
   (rng h16.2 h16.1 0 (1 * 1)).bind fun l17 =>
   (appB h16.2 1 8 x7 l17 1).bind fun m18 =>
   C (.loop F.sl06Permute 0) [.sc (.sl m18.1), .sc (.sl m12.1), .sc (.sl x19), .sc (.int .i64 x20), .sc (.int .i64 (IntKind.wrap .i64 (x21 + 1))), .agg [.sl y4_0, .sl y4_1, .sl y4_2]] m18.2)
  (some ⟨2, [.sc (.sl x7), .sc (.sl x8)], H⟩) := by kernel_rfl
theorem e_sl06Permute_1 (C : Oracle) (x7 x8 x13 : Sl) (x14 y3_0 y3_1 y3_2 : Int) (y4_0 y4_1 y4_2 y12_0 y12_1 y12_2 : Sl) (H : AH) : (procM P T C (.loop F.sl06Permute 1) [.sc (.sl x7), .sc (.sl x8), .sc (.sl x13), .sc (.int .i64 x14), .agg [.int .i64 y3_0, .int .i64 y3_1, .int .i64 y3_2], .agg [.sl y4_0, .sl y4_1, .sl y4_2], .agg [.sl y12_0, .sl y12_1, .sl y12_2]] H).run =
  (C (.fn F.sl05Product) [.sc (.sl x7), .sc (.int .i64 4096)] H).bind fun r31 =>
  (oneP r31.vs).bind fun p32 =>
  p32.sc?.bind fun c33 =>
  (intAt .i64 [c33] 0).bind fun n34 =>
  cond (decide (x14 < n34))
  ((C (.fn F.sl05Index) [.sc (.sl x7), .sc (.int .i64 x14)] r31.H).bind fun r35 =>
   (oneP r35.vs).bind fun p36 =>
   p36.sc?.bind fun c37 =>
   (slAt [c37] 0).bind fun s38 =>
   (C (.loop F.sl06Permute 2) [.sc (.sl x8), .sc (.sl x13), .sc (.sl s38), .sc (.int .i64 (s38.n : Int)), .sc (.int .i64 0)] r35.H).bind fun r47 =>
   cond (Nat.beq r47.e 6)
   ((C (.fn F.sl05Offset) [.sc (.sl y4_1), .sc (.sl x13)] r47.H).bind fun r48 =>
    (oneP r48.vs).bind fun p49 =>
    p49.sc?.bind fun c50 =>
    (intAt .i64 [c50] 0).bind fun n51 =>
    (C (.fn F.sl05Get) [.agg [.int .i64 y3_0, .int .i64 y3_1, .int .i64 y3_2], .agg [.sl y4_0, .sl y4_1, .sl y4_2], .sc (.int .i64 n51)] r48.H).bind fun r52 =>
    (oneP r52.vs).bind fun p53 =>
    p53.sc?.bind fun c54 =>
    (slAt [c54] 0).bind fun s55 =>
    (rng r52.H s55.b s55.o (s55.n * 1)).bind fun l56 =>
    (appB r52.H 1 8 y12_2 l56 s55.n).bind fun m57 =>
    C (.loop F.sl06Permute 1) [.sc (.sl x7), .sc (.sl x8), .sc (.sl x13), .sc (.int .i64 (IntKind.wrap .i64 (x14 + 1))), .agg [.int .i64 y3_0, .int .i64 y3_1, .int .i64 y3_2], .agg [.sl y4_0, .sl y4_1, .sl y4_2], .agg [.sl y12_0, .sl y12_1, .sl m57.1]] m57.2)
   (none))
  (some ⟨4, [.agg [.sl y12_0, .sl y12_1, .sl y12_2]], r31.H⟩) := by kernel_rfl
theorem e_sl06Permute_2 (C : Oracle) (x8 x13 x57 : Sl) (x58 x59 : Int) (H : AH) : (procM P T C (.loop F.sl06Permute 2) [.sc (.sl x8), .sc (.sl x13), .sc (.sl x57), .sc (.int .i64 x58), .sc (.int .i64 x59)] H).run =
  cond (decide (x59 < x58))
  ((ixA x57 x59 1).bind fun o39 =>
   (rdB H x57.b).bind fun c40 =>
   (intAt .i64 c40 o39).bind fun n41 =>
   (ixA x8 x59 1).bind fun o42 =>
   (rdB H x8.b).bind fun c43 =>
   (intAt .i64 c43 o42).bind fun n44 =>
   (ixA x13 n44 1).bind fun o45 =>
   (putR H x13.b o45 [.int .i64 n41]).bind fun H46 =>
   C (.loop F.sl06Permute 2) [.sc (.sl x8), .sc (.sl x13), .sc (.sl x57), .sc (.int .i64 x58), .sc (.int .i64 (IntKind.wrap .i64 (x59 + 1)))] H46)
  (some ⟨6, [], H⟩) := by kernel_rfl
theorem e_sl06Permute (C : Oracle) (a0_0 a0_1 a0_2 : Int) (a1_0 a1_1 a1_2 a2 : Sl) (H : AH) : (procM P T C (.fn F.sl06Permute) [.agg [.int .i64 a0_0, .int .i64 a0_1, .int .i64 a0_2], .agg [.sl a1_0, .sl a1_1, .sl a1_2], .sc (.sl a2)] H).run =
  (newB H 1 []).bind fun h1 =>
  (newB h1.2 1 []).bind fun h2 =>
  (C (.loop F.sl06Permute 0) [.sc (.sl ⟨h1.1, 0, 0, 0, true⟩), .sc (.sl ⟨h2.1, 0, 0, 0, true⟩), .sc (.sl a2), .sc (.int .i64 (a2.n : Int)), .sc (.int .i64 0), .agg [.sl a1_0, .sl a1_1, .sl a1_2]] h2.2).bind fun r19 =>
  cond (Nat.beq r19.e 2)
  ((nthP r19.vs 0).bind fun p20 =>
   p20.sc?.bind fun c21 =>
   (slAt [c21] 0).bind fun s22 =>
   (nthP r19.vs 1).bind fun p23 =>
   p23.sc?.bind fun c24 =>
   (slAt [c24] 0).bind fun s25 =>
   (C (.fn F.sl05Ints) [.sc (.sl a2)] r19.H).bind fun r26 =>
   (oneP r26.vs).bind fun p27 =>
   p27.sc?.bind fun c28 =>
   (slAt [c28] 0).bind fun s29 =>
   (mkB r26.H 1 8 [.int .i64 0] (s25.n : Int) (s25.n : Int)).bind fun m30 =>
   (C (.loop F.sl06Permute 1) [.sc (.sl s22), .sc (.sl s25), .sc (.sl m30.1), .sc (.int .i64 0), .agg [.int .i64 a0_0, .int .i64 a0_1, .int .i64 a0_2], .agg [.sl a1_0, .sl a1_1, .sl a1_2], .agg [.sl s29, .sl s22, .sl ⟨0, 0, 0, 0, true⟩]] m30.2).bind fun r58 =>
   cond (Nat.beq r58.e 4)
   (((nthP r58.vs 0).bind PV.agg?).bind fun l59 =>
    cond (decide (l59.length = 3))
    ((slAt l59 0).bind fun s60 =>
     (slAt l59 1).bind fun s61 =>
     (slAt l59 2).bind fun s62 =>
     some ⟨1, [.agg [.sl s60, .sl s61, .sl s62]], r58.H⟩)
    (none))
   (none))
  (none) := by kernel_rfl
/- loop.example/g03211/spec.TensorSize -/
theorem e_sTensorSize (C : Oracle) (a0_0 a0_1 a0_2 : Sl) (H : AH) : (procM P T C (.fn F.sTensorSize) [.agg [.sl a0_0, .sl a0_1, .sl a0_2]] H).run =
  (C (.fn F.sl05Axes) [.sc (.sl a0_0), .sc (.sl a0_1)] H).bind fun r1 =>
  (oneP r1.vs).bind fun p2 =>
  p2.sc?.bind fun c3 =>
  (boolAt [c3] 0).bind fun b4 =>
  cond (!b4)
  (some ⟨1, [.sc (.int .i64 (-1))], r1.H⟩)
  ((C (.fn F.sl05Product) [.sc (.sl a0_1), .sc (.int .i64 4096)] r1.H).bind fun r5 =>
   (oneP r5.vs).bind fun p6 =>
   p6.sc?.bind fun c7 =>
   (intAt .i64 [c7] 0).bind fun n8 =>
   cond (decide (n8 > 4096))
   (some ⟨1, [.sc (.int .i64 (-1))], r5.H⟩)
   (some ⟨1, [.sc (.int .i64 n8)], r5.H⟩)) := by kernel_rfl
/- loop.example/g03211/spec.l02Width -/
theorem e_sl02Width (C : Oracle) (a0_0 a0_1 a0_2 : Int) (H : AH) : (procM P T C (.fn F.sl02Width) [.agg [.int .i64 a0_0, .int .i64 a0_1, .int .i64 a0_2]] H).run =
  cond (a0_0 == 7)
  (some ⟨1, [.sc (.int .i64 a0_2)], H⟩)
  (cond (a0_0 == 8)
   (some ⟨1, [.sc (.int .i64 4)], H⟩)
   (some ⟨1, [.sc (.int .i64 1)], H⟩)) := by kernel_rfl
/- loop.example/g03211/spec.l02Top -/
theorem e_sl02Top (C : Oracle) (a0_0 a0_1 a0_2 : Int) (H : AH) : (procM P T C (.fn F.sl02Top) [.agg [.int .i64 a0_0, .int .i64 a0_1, .int .i64 a0_2]] H).run =
  cond (a0_0 == 1)
  (some ⟨1, [.sc (.int .i64 1)], H⟩)
  (((cond (a0_0 == 3)
   (some ⟨0, [.sc (.bool (a0_0 == 3))], H⟩)
   (cond (a0_0 == 4)
    (some ⟨0, [.sc (.bool (a0_0 == 4))], H⟩)
    (some ⟨0, [.sc (.bool (a0_0 == 5))], H⟩)) : Option Out)).bind fun r1 =>
   cond (Nat.beq r1.e 0)
   ((nthP r1.vs 0).bind fun p2 =>
    p2.sc?.bind fun c3 =>
    (boolAt [c3] 0).bind fun b4 =>
    cond b4
    (some ⟨1, [.sc (.int .i64 a0_1)], r1.H⟩)
    (cond (a0_0 == 6)
     (cond (decide (a0_2 < 0))
      (none)
      (some ⟨1, [.sc (.int .i64 (IntKind.wrap .i64 ((shlL .i64 1 a0_2) - 1)))], r1.H⟩))
     (some ⟨1, [.sc (.int .i64 (IntKind.wrap .i64 (a0_1 - 1)))], r1.H⟩)))
   (none)) := by kernel_rfl
/- loop.example/g03211/spec.ElemOk -/
theorem e_sElemOk (C : Oracle) (a0_0 a0_1 a0_2 : Int) (a1 : Sl) (H : AH) : (procM P T C (.fn F.sElemOk) [.agg [.int .i64 a0_0, .int .i64 a0_1, .int .i64 a0_2], .sc (.sl a1)] H).run =
  (C (.fn F.sRingOk) [.agg [.int .i64 a0_0, .int .i64 a0_1, .int .i64 a0_2]] H).bind fun r1 =>
  (oneP r1.vs).bind fun p2 =>
  p2.sc?.bind fun c3 =>
  (boolAt [c3] 0).bind fun b4 =>
  cond b4
  ((C (.fn F.sl02Elem) [.agg [.int .i64 a0_0, .int .i64 a0_1, .int .i64 a0_2], .sc (.sl a1)] r1.H).bind fun r5 =>
   (oneP r5.vs).bind fun p6 =>
   p6.sc?.bind fun c7 =>
   (boolAt [c7] 0).bind fun b8 =>
   some ⟨1, [.sc (.bool b8)], r5.H⟩)
  (some ⟨1, [.sc (.bool false)], r1.H⟩) := by kernel_rfl
/- loop.example/g03211/impl.TensorOk -/
theorem e_iTensorOk (C : Oracle) (a0_0 a0_1 a0_2 : Int) (a1_0 a1_1 a1_2 : Sl) (H : AH) : (procM P T C (.fn F.iTensorOk) [.agg [.int .i64 a0_0, .int .i64 a0_1, .int .i64 a0_2], .agg [.sl a1_0, .sl a1_1, .sl a1_2]] H).run =
  (C (.fn F.iRingOk) [.agg [.int .i64 a0_0, .int .i64 a0_1, .int .i64 a0_2]] H).bind fun r1 =>
  (oneP r1.vs).bind fun p2 =>
  p2.sc?.bind fun c3 =>
  (boolAt [c3] 0).bind fun b4 =>
  cond (!b4)
  (some ⟨1, [.sc (.bool false)], r1.H⟩)
  ((C (.fn F.iTensorSize) [.agg [.sl a1_0, .sl a1_1, .sl a1_2]] r1.H).bind fun r5 =>
   (oneP r5.vs).bind fun p6 =>
   p6.sc?.bind fun c7 =>
   (intAt .i64 [c7] 0).bind fun n8 =>
   cond (n8 != (-1))
   ((C (.fn F.irawWidth) [.agg [.int .i64 a0_0, .int .i64 a0_1, .int .i64 a0_2]] r5.H).bind fun r9 =>
    (oneP r9.vs).bind fun p10 =>
    p10.sc?.bind fun c11 =>
    (intAt .i64 [c11] 0).bind fun n12 =>
    cond ((a1_2.n : Int) == (IntKind.wrap .i64 (n8 * n12)))
    ((C (.fn F.iinRing) [.agg [.int .i64 a0_0, .int .i64 a0_1, .int .i64 a0_2], .sc (.sl a1_2)] r9.H).bind fun r13 =>
     (oneP r13.vs).bind fun p14 =>
     p14.sc?.bind fun c15 =>
     (boolAt [c15] 0).bind fun b16 =>
     some ⟨1, [.sc (.bool b16)], r13.H⟩)
    (some ⟨1, [.sc (.bool false)], r9.H⟩))
   (some ⟨1, [.sc (.bool false)], r5.H⟩)) := by kernel_rfl
/- loop.example/g03211/impl.equalInts -/
theorem e_iequalInts_0 (C : Oracle) (x0 x1 : Sl) (x12 x13 : Int) (H : AH) : (procM P T C (.loop F.iequalInts 0) [.sc (.sl x0), .sc (.sl x1), .sc (.int .i64 x12), .sc (.int .i64 x13)] H).run =
  cond (decide (x13 < x12))
  ((ixA x0 x13 1).bind fun o1 =>
   (rdB H x0.b).bind fun c2 =>
   (intAt .i64 c2 o1).bind fun n3 =>
   (ixA x1 x13 1).bind fun o4 =>
   (rdB H x1.b).bind fun c5 =>
   (intAt .i64 c5 o4).bind fun n6 =>
   cond (n3 != n6)
   (some ⟨1, [.sc (.bool false)], H⟩)
   (C (.loop F.iequalInts 0) [.sc (.sl x0), .sc (.sl x1), .sc (.int .i64 x12), .sc (.int .i64 (IntKind.wrap .i64 (x13 + 1)))] H))
  (some ⟨2, [], H⟩) := by kernel_rfl
theorem e_iequalInts (C : Oracle) (a0 a1 : Sl) (H : AH) : (procM P T C (.fn F.iequalInts) [.sc (.sl a0), .sc (.sl a1)] H).run =
  cond ((a0.n : Int) != (a1.n : Int))
  (some ⟨1, [.sc (.bool false)], H⟩)
  ((C (.loop F.iequalInts 0) [.sc (.sl a0), .sc (.sl a1), .sc (.int .i64 (a0.n : Int)), .sc (.int .i64 0)] H).bind fun r7 =>
   cond (Nat.beq r7.e 1)
   ((nthP r7.vs 0).bind fun p8 =>
    p8.sc?.bind fun c9 =>
    (boolAt [c9] 0).bind fun b10 =>
    some ⟨1, [.sc (.bool b10)], r7.H⟩)
   (cond (Nat.beq r7.e 2)
    (some ⟨1, [.sc (.bool true)], r7.H⟩)
    (none))) := by kernel_rfl
/- loop.example/g03211/impl.copyInts -/
theorem e_icopyInts (C : Oracle) (a0 : Sl) (H : AH) : (procM P T C (.fn F.icopyInts) [.sc (.sl a0)] H).run =
  (rng H a0.b a0.o (a0.n * 1)).bind fun l1 =>
  (appB H 1 8 ⟨0, 0, 0, 0, true⟩ l1 a0.n).bind fun m2 =>
  some ⟨1, [.sc (.sl m2.1)], m2.2⟩ := by kernel_rfl
/- loop.example/g03211/impl.fillTensor -/
theorem e_ifillTensor_0 (C : Oracle) (x3 : Sl) (x10 x11 : Int) (y9_0 y9_1 y9_2 : Sl) (H : AH) : (procM P T C (.loop F.ifillTensor 0) [.sc (.sl x3), .sc (.int .i64 x10), .sc (.int .i64 x11), .agg [.sl y9_0, .sl y9_1, .sl y9_2]] H).run =
  cond (decide (x11 < x10))
  ((rng H x3.b x3.o (x3.n * 1)).bind fun l14 =>
   (appB H 1 8 y9_2 l14 x3.n).bind fun m15 =>
   C (.loop F.ifillTensor 0) [.sc (.sl x3), .sc (.int .i64 x10), .sc (.int .i64 (IntKind.wrap .i64 (x11 + 1))), .agg [.sl y9_0, .sl y9_1, .sl m15.1]] m15.2)
  (some ⟨2, [.agg [.sl y9_0, .sl y9_1, .sl y9_2]], H⟩) := by kernel_rfl
theorem e_ifillTensor (C : Oracle) (a0_0 a0_1 a0_2 : Int) (a1 a2 a3 : Sl) (H : AH) : (procM P T C (.fn F.ifillTensor) [.agg [.int .i64 a0_0, .int .i64 a0_1, .int .i64 a0_2], .sc (.sl a1), .sc (.sl a2), .sc (.sl a3)] H).run =
  (C (.fn F.icopyInts) [.sc (.sl a1)] H).bind fun r1 =>
  (oneP r1.vs).bind fun p2 =>
  p2.sc?.bind fun c3 =>
  (slAt [c3] 0).bind fun s4 =>
  (C (.fn F.icopyInts) [.sc (.sl a2)] r1.H).bind fun r5 =>
  (oneP r5.vs).bind fun p6 =>
  p6.sc?.bind fun c7 =>
  (slAt [c7] 0).bind fun s8 =>
  (C (.fn F.iproductOf) [.sc (.sl a2)] r5.H).bind fun r9 =>
  (oneP r9.vs).bind fun p10 =>
  p10.sc?.bind fun c11 =>
  (intAt .i64 [c11] 0).bind fun n12 =>
  (mkB r9.H 1 8 [.int .i64 0] 0 (IntKind.wrap .i64 (n12 * (a3.n : Int)))).bind fun m13 =>
  (C (.loop F.ifillTensor 0) [.sc (.sl a3), .sc (.int .i64 n12), .sc (.int .i64 0), .agg [.sl s4, .sl s8, .sl m13.1]] m13.2).bind fun r16 =>
  cond (Nat.beq r16.e 2)
  (((nthP r16.vs 0).bind PV.agg?).bind fun l17 =>
   cond (decide (l17.length = 3))
   ((slAt l17 0).bind fun s18 =>
    (slAt l17 1).bind fun s19 =>
    (slAt l17 2).bind fun s20 =>
    some ⟨1, [.agg [.sl s18, .sl s19, .sl s20]], r16.H⟩)
   (none))
  (none) := by kernel_rfl
/- loop.example/g03211/impl.rawZero -/
theorem e_irawZero (C : Oracle) (a0_0 a0_1 a0_2 : Int) (H : AH) : (procM P T C (.fn F.irawZero) [.agg [.int .i64 a0_0, .int .i64 a0_1, .int .i64 a0_2]] H).run =
  (C (.fn F.irawWidth) [.agg [.int .i64 a0_0, .int .i64 a0_1, .int .i64 a0_2]] H).bind fun r1 =>
  (oneP r1.vs).bind fun p2 =>
  p2.sc?.bind fun c3 =>
  (intAt .i64 [c3] 0).bind fun n4 =>
  (mkB r1.H 1 8 [.int .i64 0] n4 n4).bind fun m5 =>
  cond (a0_0 == 4)
  ((ixA m5.1 0 1).bind fun o6 =>
   (putR m5.2 m5.1.b o6 [.int .i64 a0_1]).bind fun H7 =>
   some ⟨1, [.sc (.sl m5.1)], H7⟩)
  (some ⟨1, [.sc (.sl m5.1)], m5.2⟩) := by kernel_rfl
/- loop.example/g03211/impl.productOf -/
theorem e_iproductOf_0 (C : Oracle) (x3 : Int) (x6 : Sl) (x7 x8 : Int) (H : AH) : (procM P T C (.loop F.iproductOf 0) [.sc (.int .i64 x3), .sc (.sl x6), .sc (.int .i64 x7), .sc (.int .i64 x8)] H).run =
  cond (decide (x8 < x7))
  ((ixA x6 x8 1).bind fun o1 =>
   (rdB H x6.b).bind fun c2 =>
   (intAt .i64 c2 o1).bind fun n3 =>
   C (.loop F.iproductOf 0) [.sc (.int .i64 (IntKind.wrap .i64 (x3 * n3))), .sc (.sl x6), .sc (.int .i64 x7), .sc (.int .i64 (IntKind.wrap .i64 (x8 + 1)))] H)
  (some ⟨2, [.sc (.int .i64 x3)], H⟩) := by kernel_rfl
theorem e_iproductOf (C : Oracle) (a0 : Sl) (H : AH) : (procM P T C (.fn F.iproductOf) [.sc (.sl a0)] H).run =
  (C (.loop F.iproductOf 0) [.sc (.int .i64 1), .sc (.sl a0), .sc (.int .i64 (a0.n : Int)), .sc (.int .i64 0)] H).bind fun r4 =>
  cond (Nat.beq r4.e 2)
  ((nthP r4.vs 0).bind fun p5 =>
   p5.sc?.bind fun c6 =>
   (intAt .i64 [c6] 0).bind fun n7 =>
   some ⟨1, [.sc (.int .i64 n7)], r4.H⟩)
  (none) := by kernel_rfl
/- loop.example/g03211/impl.indexIn -/
theorem e_iindexIn_0 (C : Oracle) (x0 : Sl) (x1 : Int) (x5 : Sl) (x6 : Int) (H : AH) : (procM P T C (.loop F.iindexIn 0) [.sc (.sl x0), .sc (.int .i64 x1), .sc (.sl x5), .sc (.int .i64 x6)] H).run =
  cond (decide (x6 ≥ 0))
  ((ixA x0 x6 1).bind fun o2 =>
   (rdB H x0.b).bind fun c3 =>
   (intAt .i64 c3 o2).bind fun n4 =>
   cond (n4 == 0)
   (none)
   ((ixA x5 x6 1).bind fun o5 =>
    (putR H x5.b o5 [.int .i64 (Int.tmod x1 n4)]).bind fun H6 =>
    (ixA x0 x6 1).bind fun o7 =>
    (rdB H6 x0.b).bind fun c8 =>
    (intAt .i64 c8 o7).bind fun n9 =>
    cond (n9 == 0)
    (none)
    (C (.loop F.iindexIn 0) [.sc (.sl x0), .sc (.int .i64 (IntKind.wrap .i64 (Int.tdiv x1 n9))), .sc (.sl x5), .sc (.int .i64 (IntKind.wrap .i64 (x6 - 1)))] H6)))
  (some ⟨2, [], H⟩) := by kernel_rfl
theorem e_iindexIn (C : Oracle) (a0 : Sl) (a1 : Int) (H : AH) : (procM P T C (.fn F.iindexIn) [.sc (.sl a0), .sc (.int .i64 a1)] H).run =
  (mkB H 1 8 [.int .i64 0] (a0.n : Int) (a0.n : Int)).bind fun m1 =>
  (C (.loop F.iindexIn 0) [.sc (.sl a0), .sc (.int .i64 a1), .sc (.sl m1.1), .sc (.int .i64 (IntKind.wrap .i64 ((a0.n : Int) - 1)))] m1.2).bind fun r10 =>
  cond (Nat.beq r10.e 2)
  (some ⟨1, [.sc (.sl m1.1)], r10.H⟩)
  (none) := by kernel_rfl
/- loop.example/g03211/impl.rawElem -/
theorem e_irawElem (C : Oracle) (a0_0 a0_1 a0_2 : Int) (a1_0 a1_1 a1_2 : Sl) (a2 : Int) (H : AH) : (procM P T C (.fn F.irawElem) [.agg [.int .i64 a0_0, .int .i64 a0_1, .int .i64 a0_2], .agg [.sl a1_0, .sl a1_1, .sl a1_2], .sc (.int .i64 a2)] H).run =
  (C (.fn F.irawWidth) [.agg [.int .i64 a0_0, .int .i64 a0_1, .int .i64 a0_2]] H).bind fun r1 =>
  (oneP r1.vs).bind fun p2 =>
  p2.sc?.bind fun c3 =>
  (intAt .i64 [c3] 0).bind fun n4 =>
  (slB a1_2 (some (IntKind.wrap .i64 (a2 * n4))) (some (IntKind.wrap .i64 ((IntKind.wrap .i64 (a2 + 1)) * n4))) none 1).bind fun s5 =>
  some ⟨1, [.sc (.sl s5)], r1.H⟩ := by kernel_rfl
/- loop.example/g03211/impl.offsetIn -/
theorem e_ioffsetIn_0 (C : Oracle) (x0 : Sl) (x5 : Int) (x8 : Sl) (x9 x10 : Int) (H : AH) : (procM P T C (.loop F.ioffsetIn 0) [.sc (.sl x0), .sc (.int .i64 x5), .sc (.sl x8), .sc (.int .i64 x9), .sc (.int .i64 x10)] H).run =
  cond (decide (x10 < x9))
  ((ixA x8 x10 1).bind fun o1 =>
   (rdB H x8.b).bind fun c2 =>
   (intAt .i64 c2 o1).bind fun n3 =>
   (ixA x0 x10 1).bind fun o4 =>
   (rdB H x0.b).bind fun c5 =>
   (intAt .i64 c5 o4).bind fun n6 =>
   C (.loop F.ioffsetIn 0) [.sc (.sl x0), .sc (.int .i64 (IntKind.wrap .i64 ((IntKind.wrap .i64 (x5 * n6)) + n3))), .sc (.sl x8), .sc (.int .i64 x9), .sc (.int .i64 (IntKind.wrap .i64 (x10 + 1)))] H)
  (some ⟨2, [.sc (.int .i64 x5)], H⟩) := by kernel_rfl
theorem e_ioffsetIn (C : Oracle) (a0 a1 : Sl) (H : AH) : (procM P T C (.fn F.ioffsetIn) [.sc (.sl a0), .sc (.sl a1)] H).run =
  (C (.loop F.ioffsetIn 0) [.sc (.sl a0), .sc (.int .i64 0), .sc (.sl a1), .sc (.int .i64 (a1.n : Int)), .sc (.int .i64 0)] H).bind fun r7 =>
  cond (Nat.beq r7.e 2)
  ((nthP r7.vs 0).bind fun p8 =>
   p8.sc?.bind fun c9 =>
   (intAt .i64 [c9] 0).bind fun n10 =>
   some ⟨1, [.sc (.int .i64 n10)], r7.H⟩)
  (none) := by kernel_rfl
/- loop.example/g03211/impl.addInto -/
theorem e_iaddInto_0 (C : Oracle) (x1 x2 : Sl) (x10 x11 y3_0 y3_1 y3_2 : Int) (H : AH) : (procM P T C (.loop F.iaddInto 0) [.sc (.sl x1), .sc (.sl x2), .sc (.int .i64 x10), .sc (.int .i64 x11), .agg [.int .i64 y3_0, .int .i64 y3_1, .int .i64 y3_2]] H).run =
  cond (decide (x11 < x10))
  ((ixA x1 x11 1).bind fun o37 =>
   (rdB H x1.b).bind fun c38 =>
   (intAt .i64 c38 o37).bind fun n39 =>
   (ixA x2 x11 1).bind fun o40 =>
   (rdB H x2.b).bind fun c41 =>
   (intAt .i64 c41 o40).bind fun n42 =>
   cond (y3_1 == 0)
   (none)
   ((ixA x1 x11 1).bind fun o43 =>
    (putR H x1.b o43 [.int .i64 (Int.tmod (IntKind.wrap .i64 (n39 + n42)) y3_1)]).bind fun H44 =>
    C (.loop F.iaddInto 0) [.sc (.sl x1), .sc (.sl x2), .sc (.int .i64 x10), .sc (.int .i64 (IntKind.wrap .i64 (x11 + 1))), .agg [.int .i64 y3_0, .int .i64 y3_1, .int .i64 y3_2]] H44))
  (some ⟨3, [], H⟩) := by kernel_rfl
theorem e_iaddInto (C : Oracle) (a0_0 a0_1 a0_2 : Int) (a1 a2 : Sl) (H : AH) : (procM P T C (.fn F.iaddInto) [.agg [.int .i64 a0_0, .int .i64 a0_1, .int .i64 a0_2], .sc (.sl a1), .sc (.sl a2)] H).run =
  ((cond (a0_0 == 1)
   (some ⟨0, [.sc (.bool (a0_0 == 1))], H⟩)
   (some ⟨0, [.sc (.bool (a0_0 == 5))], H⟩) : Option Out)).bind fun r1 =>
  cond (Nat.beq r1.e 0)
  ((nthP r1.vs 0).bind fun p2 =>
   p2.sc?.bind fun c3 =>
   (boolAt [c3] 0).bind fun b4 =>
   cond b4
   ((ixA a1 0 1).bind fun o5 =>
    (rdB r1.H a1.b).bind fun c6 =>
    (intAt .i64 c6 o5).bind fun n7 =>
    (ixA a2 0 1).bind fun o8 =>
    (rdB r1.H a2.b).bind fun c9 =>
    (intAt .i64 c9 o8).bind fun n10 =>
    (ixA a1 0 1).bind fun o11 =>
    (putR r1.H a1.b o11 [.int .i64 (if n10 > n7 then n10 else n7)]).bind fun H12 =>
    some ⟨1, [], H12⟩)
   (cond (a0_0 == 3)
    ((ixA a1 0 1).bind fun o13 =>
     (rdB r1.H a1.b).bind fun c14 =>
     (intAt .i64 c14 o13).bind fun n15 =>
     (ixA a2 0 1).bind fun o16 =>
     (rdB r1.H a2.b).bind fun c17 =>
     (intAt .i64 c17 o16).bind fun n18 =>
     (ixA a1 0 1).bind fun o19 =>
     (putR r1.H a1.b o19 [.int .i64 (if a0_1 < IntKind.wrap .i64 (n15 + n18) then a0_1 else IntKind.wrap .i64 (n15 + n18))]).bind fun H20 =>
     some ⟨1, [], H20⟩)
    (cond (a0_0 == 4)
     ((ixA a1 0 1).bind fun o21 =>
      (rdB r1.H a1.b).bind fun c22 =>
      (intAt .i64 c22 o21).bind fun n23 =>
      (ixA a2 0 1).bind fun o24 =>
      (rdB r1.H a2.b).bind fun c25 =>
      (intAt .i64 c25 o24).bind fun n26 =>
      (ixA a1 0 1).bind fun o27 =>
      (putR r1.H a1.b o27 [.int .i64 (if n26 < n23 then n26 else n23)]).bind fun H28 =>
      some ⟨1, [], H28⟩)
     (cond (a0_0 == 6)
      ((ixA a1 0 1).bind fun o29 =>
       (rdB r1.H a1.b).bind fun c30 =>
       (intAt .i64 c30 o29).bind fun n31 =>
       (ixA a2 0 1).bind fun o32 =>
       (rdB r1.H a2.b).bind fun c33 =>
       (intAt .i64 c33 o32).bind fun n34 =>
       (ixA a1 0 1).bind fun o35 =>
       (putR r1.H a1.b o35 [.int .i64 (bitOr .i64 n31 n34)]).bind fun H36 =>
       some ⟨1, [], H36⟩)
      ((C (.loop F.iaddInto 0) [.sc (.sl a1), .sc (.sl a2), .sc (.int .i64 (a1.n : Int)), .sc (.int .i64 0), .agg [.int .i64 a0_0, .int .i64 a0_1, .int .i64 a0_2]] r1.H).bind fun r45 =>
       cond (Nat.beq r45.e 3)
       (some ⟨1, [], r45.H⟩)
       (none))))))
  (none) := by kernel_rfl
/- loop.example/g03211/impl.rawMul -/
theorem e_irawMul (C : Oracle) (a0_0 a0_1 a0_2 : Int) (a1 a2 : Sl) (H : AH) : (procM P T C (.fn F.irawMul) [.agg [.int .i64 a0_0, .int .i64 a0_1, .int .i64 a0_2], .sc (.sl a1), .sc (.sl a2)] H).run =
  (C (.fn F.irawWidth) [.agg [.int .i64 a0_0, .int .i64 a0_1, .int .i64 a0_2]] H).bind fun r1 =>
  (oneP r1.vs).bind fun p2 =>
  p2.sc?.bind fun c3 =>
  (intAt .i64 [c3] 0).bind fun n4 =>
  (mkB r1.H 1 8 [.int .i64 0] n4 n4).bind fun m5 =>
  (C (.fn F.imulInto) [.agg [.int .i64 a0_0, .int .i64 a0_1, .int .i64 a0_2], .sc (.sl m5.1), .sc (.sl a1), .sc (.sl a2)] m5.2).bind fun r6 =>
  some ⟨1, [.sc (.sl m5.1)], r6.H⟩ := by kernel_rfl
/- loop.example/g03211/impl.phaseOf -/
theorem e_iphaseOf (C : Oracle) (a0 : Int) (H : AH) : (procM P T C (.fn F.iphaseOf) [.sc (.int .i64 a0)] H).run =
  ((cond (a0 == 2)
   (some ⟨0, [.sc (.bool (a0 == 2))], H⟩)
   (some ⟨0, [.sc (.bool (a0 == 9))], H⟩) : Option Out)).bind fun r1 =>
  cond (Nat.beq r1.e 0)
  ((nthP r1.vs 0).bind fun p2 =>
   p2.sc?.bind fun c3 =>
   (boolAt [c3] 0).bind fun b4 =>
   cond b4
   (some ⟨1, [.sc (.int .i64 4), .sc (.bool true)], r1.H⟩)
   (cond (a0 == 3)
    (some ⟨1, [.sc (.int .i64 2), .sc (.bool true)], r1.H⟩)
    (cond (a0 == 4)
     (some ⟨1, [.sc (.int .i64 1), .sc (.bool true)], r1.H⟩)
     (cond (a0 == 6)
      (some ⟨1, [.sc (.int .i64 6), .sc (.bool true)], r1.H⟩)
      (cond (a0 == 7)
       (some ⟨1, [.sc (.int .i64 7), .sc (.bool true)], r1.H⟩)
       (some ⟨1, [.sc (.int .i64 0), .sc (.bool false)], r1.H⟩))))))
  (none) := by kernel_rfl
/- loop.example/g03211/impl.rawInverse -/
theorem e_irawInverse_0 (C : Oracle) (x0 x1 x5 x6 : Int) (H : AH) : (procM P T C (.loop F.irawInverse 0) [.sc (.int .i64 x0), .sc (.int .i64 x1), .sc (.int .i64 x5), .sc (.int .i64 x6)] H).run =
  cond (decide (x6 > 0))
  (cond ((bitAnd .i64 x6 1) == 1)
   (cond (x0 == 0)
    (none)
    (cond (x0 == 0)
     (none)
     (C (.loop F.irawInverse 0) [.sc (.int .i64 x0), .sc (.int .i64 (Int.tmod (IntKind.wrap .i64 (x1 * x1)) x0)), .sc (.int .i64 (Int.tmod (IntKind.wrap .i64 (x5 * x1)) x0)), .sc (.int .i64 (shlR .i64 x6 1))] H)))
   (cond (x0 == 0)
    (none)
    (C (.loop F.irawInverse 0) [.sc (.int .i64 x0), .sc (.int .i64 (Int.tmod (IntKind.wrap .i64 (x1 * x1)) x0)), .sc (.int .i64 x5), .sc (.int .i64 (shlR .i64 x6 1))] H)))
  (some ⟨2, [.sc (.int .i64 x5)], H⟩) := by kernel_rfl
theorem e_irawInverse (C : Oracle) (a0 a1 : Int) (H : AH) : (procM P T C (.fn F.irawInverse) [.sc (.int .i64 a0), .sc (.int .i64 a1)] H).run =
  (C (.loop F.irawInverse 0) [.sc (.int .i64 a0), .sc (.int .i64 a1), .sc (.int .i64 1), .sc (.int .i64 (IntKind.wrap .i64 (a0 - 2)))] H).bind fun r1 =>
  cond (Nat.beq r1.e 2)
  ((nthP r1.vs 0).bind fun p2 =>
   p2.sc?.bind fun c3 =>
   (intAt .i64 [c3] 0).bind fun n4 =>
   some ⟨1, [.sc (.int .i64 n4)], r1.H⟩)
  (none) := by kernel_rfl
/- loop.example/g03211/impl.ElemOk -/
theorem e_iElemOk (C : Oracle) (a0_0 a0_1 a0_2 : Int) (a1 : Sl) (H : AH) : (procM P T C (.fn F.iElemOk) [.agg [.int .i64 a0_0, .int .i64 a0_1, .int .i64 a0_2], .sc (.sl a1)] H).run =
  (C (.fn F.iRingOk) [.agg [.int .i64 a0_0, .int .i64 a0_1, .int .i64 a0_2]] H).bind fun r1 =>
  (oneP r1.vs).bind fun p2 =>
  p2.sc?.bind fun c3 =>
  (boolAt [c3] 0).bind fun b4 =>
  cond b4
  ((C (.fn F.irawWidth) [.agg [.int .i64 a0_0, .int .i64 a0_1, .int .i64 a0_2]] r1.H).bind fun r5 =>
   (oneP r5.vs).bind fun p6 =>
   p6.sc?.bind fun c7 =>
   (intAt .i64 [c7] 0).bind fun n8 =>
   cond ((a1.n : Int) == n8)
   ((C (.fn F.iinRing) [.agg [.int .i64 a0_0, .int .i64 a0_1, .int .i64 a0_2], .sc (.sl a1)] r5.H).bind fun r9 =>
    (oneP r9.vs).bind fun p10 =>
    p10.sc?.bind fun c11 =>
    (boolAt [c11] 0).bind fun b12 =>
    some ⟨1, [.sc (.bool b12)], r9.H⟩)
   (some ⟨1, [.sc (.bool false)], r5.H⟩))
  (some ⟨1, [.sc (.bool false)], r1.H⟩) := by kernel_rfl
/- loop.example/g03211/impl.mulInto -/
theorem e_imulInto (C : Oracle) (a0_0 a0_1 a0_2 : Int) (a1 a2 a3 : Sl) (H : AH) : (procM P T C (.fn F.imulInto) [.agg [.int .i64 a0_0, .int .i64 a0_1, .int .i64 a0_2], .sc (.sl a1), .sc (.sl a2), .sc (.sl a3)] H).run =
  ((cond (a0_0 == 1)
   (some ⟨0, [.sc (.bool (a0_0 == 1))], H⟩)
   (some ⟨0, [.sc (.bool (a0_0 == 5))], H⟩) : Option Out)).bind fun r1 =>
  cond (Nat.beq r1.e 0)
  ((nthP r1.vs 0).bind fun p2 =>
   p2.sc?.bind fun c3 =>
   (boolAt [c3] 0).bind fun b4 =>
   cond b4
   ((ixA a2 0 1).bind fun o5 =>
    (rdB r1.H a2.b).bind fun c6 =>
    (intAt .i64 c6 o5).bind fun n7 =>
    (ixA a3 0 1).bind fun o8 =>
    (rdB r1.H a3.b).bind fun c9 =>
    (intAt .i64 c9 o8).bind fun n10 =>
    (ixA a1 0 1).bind fun o11 =>
    (putR r1.H a1.b o11 [.int .i64 (if n10 < n7 then n10 else n7)]).bind fun H12 =>
    some ⟨1, [], H12⟩)
   (cond (a0_0 == 2)
    ((ixA a2 0 1).bind fun o13 =>
     (rdB r1.H a2.b).bind fun c14 =>
     (intAt .i64 c14 o13).bind fun n15 =>
     (ixA a3 0 1).bind fun o16 =>
     (rdB r1.H a3.b).bind fun c17 =>
     (intAt .i64 c17 o16).bind fun n18 =>
     cond (a0_1 == 0)
     (none)
     ((ixA a1 0 1).bind fun o19 =>
      (putR r1.H a1.b o19 [.int .i64 (Int.tmod (IntKind.wrap .i64 (n15 * n18)) a0_1)]).bind fun H20 =>
      some ⟨1, [], H20⟩))
    (cond (a0_0 == 3)
     ((ixA a2 0 1).bind fun o21 =>
      (rdB r1.H a2.b).bind fun c22 =>
      (intAt .i64 c22 o21).bind fun n23 =>
      (ixA a3 0 1).bind fun o24 =>
      (rdB r1.H a3.b).bind fun c25 =>
      (intAt .i64 c25 o24).bind fun n26 =>
      (ixA a1 0 1).bind fun o27 =>
      (putR r1.H a1.b o27 [.int .i64 (if a0_1 < IntKind.wrap .i64 (n23 * n26) then a0_1 else IntKind.wrap .i64 (n23 * n26))]).bind fun H28 =>
      some ⟨1, [], H28⟩)
     (cond (a0_0 == 4)
      ((ixA a2 0 1).bind fun o29 =>
       (rdB r1.H a2.b).bind fun c30 =>
       (intAt .i64 c30 o29).bind fun n31 =>
       (ixA a3 0 1).bind fun o32 =>
       (rdB r1.H a3.b).bind fun c33 =>
       (intAt .i64 c33 o32).bind fun n34 =>
       (ixA a1 0 1).bind fun o35 =>
       (putR r1.H a1.b o35 [.int .i64 (if a0_1 < IntKind.wrap .i64 (n31 + n34) then a0_1 else IntKind.wrap .i64 (n31 + n34))]).bind fun H36 =>
       some ⟨1, [], H36⟩)
      (cond (a0_0 == 6)
       ((ixA a2 0 1).bind fun o37 =>
        (rdB r1.H a2.b).bind fun c38 =>
        (intAt .i64 c38 o37).bind fun n39 =>
        (ixA a3 0 1).bind fun o40 =>
        (rdB r1.H a3.b).bind fun c41 =>
        (intAt .i64 c41 o40).bind fun n42 =>
        (ixA a1 0 1).bind fun o43 =>
        (putR r1.H a1.b o43 [.int .i64 (bitAnd .i64 n39 n42)]).bind fun H44 =>
        some ⟨1, [], H44⟩)
       ((C (.fn F.imulCoefficients) [.agg [.int .i64 a0_0, .int .i64 a0_1, .int .i64 a0_2], .sc (.sl a1), .sc (.sl a2), .sc (.sl a3)] r1.H).bind fun r45 =>
        some ⟨1, [], r45.H⟩))))))
  (none) := by kernel_rfl
/- loop.example/g03211/spec.l02Zero -/
theorem e_sl02Zero (C : Oracle) (a0_0 a0_1 a0_2 : Int) (H : AH) : (procM P T C (.fn F.sl02Zero) [.agg [.int .i64 a0_0, .int .i64 a0_1, .int .i64 a0_2]] H).run =
  (C (.fn F.sl02Width) [.agg [.int .i64 a0_0, .int .i64 a0_1, .int .i64 a0_2]] H).bind fun r1 =>
  (oneP r1.vs).bind fun p2 =>
  p2.sc?.bind fun c3 =>
  (intAt .i64 [c3] 0).bind fun n4 =>
  (mkB r1.H 1 8 [.int .i64 0] n4 n4).bind fun m5 =>
  cond (a0_0 == 4)
  ((ixA m5.1 0 1).bind fun o6 =>
   (putR m5.2 m5.1.b o6 [.int .i64 a0_1]).bind fun H7 =>
   some ⟨1, [.sc (.sl m5.1)], H7⟩)
  (some ⟨1, [.sc (.sl m5.1)], m5.2⟩) := by kernel_rfl
/- loop.example/g03211/impl.hasInt -/
theorem e_ihasInt_0 (C : Oracle) (x1 : Int) (x7 : Sl) (x8 x9 : Int) (H : AH) : (procM P T C (.loop F.ihasInt 0) [.sc (.int .i64 x1), .sc (.sl x7), .sc (.int .i64 x8), .sc (.int .i64 x9)] H).run =
  cond (decide (x9 < x8))
  ((ixA x7 x9 1).bind fun o1 =>
   (rdB H x7.b).bind fun c2 =>
   (intAt .i64 c2 o1).bind fun n3 =>
   cond (x1 == n3)
   (some ⟨1, [.sc (.bool true)], H⟩)
   (C (.loop F.ihasInt 0) [.sc (.int .i64 x1), .sc (.sl x7), .sc (.int .i64 x8), .sc (.int .i64 (IntKind.wrap .i64 (x9 + 1)))] H))
  (some ⟨2, [], H⟩) := by kernel_rfl
theorem e_ihasInt (C : Oracle) (a0 : Sl) (a1 : Int) (H : AH) : (procM P T C (.fn F.ihasInt) [.sc (.sl a0), .sc (.int .i64 a1)] H).run =
  (C (.loop F.ihasInt 0) [.sc (.int .i64 a1), .sc (.sl a0), .sc (.int .i64 (a0.n : Int)), .sc (.int .i64 0)] H).bind fun r4 =>
  cond (Nat.beq r4.e 1)
  ((nthP r4.vs 0).bind fun p5 =>
   p5.sc?.bind fun c6 =>
   (boolAt [c6] 0).bind fun b7 =>
   some ⟨1, [.sc (.bool b7)], r4.H⟩)
  (cond (Nat.beq r4.e 2)
   (some ⟨1, [.sc (.bool false)], r4.H⟩)
   (none)) := by kernel_rfl
/- loop.example/g03211/impl.rawWidth -/
theorem e_irawWidth (C : Oracle) (a0_0 a0_1 a0_2 : Int) (H : AH) : (procM P T C (.fn F.irawWidth) [.agg [.int .i64 a0_0, .int .i64 a0_1, .int .i64 a0_2]] H).run =
  cond (a0_0 == 7)
  (some ⟨1, [.sc (.int .i64 a0_2)], H⟩)
  (cond (a0_0 == 8)
   (some ⟨1, [.sc (.int .i64 4)], H⟩)
   (some ⟨1, [.sc (.int .i64 1)], H⟩)) := by kernel_rfl
/- loop.example/g03211/impl.rawTop -/
theorem e_irawTop (C : Oracle) (a0_0 a0_1 a0_2 : Int) (H : AH) : (procM P T C (.fn F.irawTop) [.agg [.int .i64 a0_0, .int .i64 a0_1, .int .i64 a0_2]] H).run =
  cond (a0_0 == 1)
  (some ⟨1, [.sc (.int .i64 1)], H⟩)
  (((cond (a0_0 == 3)
   (some ⟨0, [.sc (.bool (a0_0 == 3))], H⟩)
   (cond (a0_0 == 4)
    (some ⟨0, [.sc (.bool (a0_0 == 4))], H⟩)
    (some ⟨0, [.sc (.bool (a0_0 == 5))], H⟩)) : Option Out)).bind fun r1 =>
   cond (Nat.beq r1.e 0)
   ((nthP r1.vs 0).bind fun p2 =>
    p2.sc?.bind fun c3 =>
    (boolAt [c3] 0).bind fun b4 =>
    cond b4
    (some ⟨1, [.sc (.int .i64 a0_1)], r1.H⟩)
    (cond (a0_0 == 6)
     (cond (decide (a0_2 < 0))
      (none)
      (some ⟨1, [.sc (.int .i64 (IntKind.wrap .i64 ((shlL .i64 1 a0_2) - 1)))], r1.H⟩))
     (some ⟨1, [.sc (.int .i64 (IntKind.wrap .i64 (a0_1 - 1)))], r1.H⟩)))
   (none)) := by kernel_rfl
/- loop.example/g03211/impl.TensorSize -/
theorem e_iTensorSize_0 (C : Oracle) (x3 : Int) (x21 : Sl) (x22 x23 : Int) (y1_0 y1_1 y1_2 : Sl) (H : AH) : (procM P T C (.loop F.iTensorSize 0) [.sc (.int .i64 x3), .sc (.sl x21), .sc (.int .i64 x22), .sc (.int .i64 x23), .agg [.sl y1_0, .sl y1_1, .sl y1_2]] H).run =
  cond (decide (x23 < x22))
  ((ixA x21 x23 1).bind fun o1 =>
   (rdB H x21.b).bind fun c2 =>
   (intAt .i64 c2 o1).bind fun n3 =>
   cond (decide (n3 < 0))
   (some ⟨1, [.sc (.int .i64 (-1))], H⟩)
   (cond (decide (n3 > 99))
    (some ⟨1, [.sc (.int .i64 (-1))], H⟩)
    ((slB y1_0 none (some x23) none 1).bind fun s4 =>
     (C (.fn F.ihasInt) [.sc (.sl s4), .sc (.int .i64 n3)] H).bind fun r5 =>
     (oneP r5.vs).bind fun p6 =>
     p6.sc?.bind fun c7 =>
     (boolAt [c7] 0).bind fun b8 =>
     cond b8
     (some ⟨1, [.sc (.int .i64 (-1))], r5.H⟩)
     ((ixA y1_1 x23 1).bind fun o9 =>
      (rdB r5.H y1_1.b).bind fun c10 =>
      (intAt .i64 c10 o9).bind fun n11 =>
      cond (decide (n11 < 1))
      (some ⟨1, [.sc (.int .i64 (-1))], r5.H⟩)
      (cond (decide (n11 > 8))
       (some ⟨1, [.sc (.int .i64 (-1))], r5.H⟩)
       (cond (decide ((IntKind.wrap .i64 (x3 * n11)) > 4096))
        (some ⟨1, [.sc (.int .i64 (-1))], r5.H⟩)
        (C (.loop F.iTensorSize 0) [.sc (.int .i64 (IntKind.wrap .i64 (x3 * n11))), .sc (.sl x21), .sc (.int .i64 x22), .sc (.int .i64 (IntKind.wrap .i64 (x23 + 1))), .agg [.sl y1_0, .sl y1_1, .sl y1_2]] r5.H)))))))
  (some ⟨2, [.sc (.int .i64 x3)], H⟩) := by kernel_rfl
theorem e_iTensorSize (C : Oracle) (a0_0 a0_1 a0_2 : Sl) (H : AH) : (procM P T C (.fn F.iTensorSize) [.agg [.sl a0_0, .sl a0_1, .sl a0_2]] H).run =
  cond (decide ((a0_0.n : Int) > 12))
  (some ⟨1, [.sc (.int .i64 (-1))], H⟩)
  (cond ((a0_0.n : Int) != (a0_1.n : Int))
   (some ⟨1, [.sc (.int .i64 (-1))], H⟩)
   ((C (.loop F.iTensorSize 0) [.sc (.int .i64 1), .sc (.sl a0_0), .sc (.int .i64 (a0_0.n : Int)), .sc (.int .i64 0), .agg [.sl a0_0, .sl a0_1, .sl a0_2]] H).bind fun r12 =>
    cond (Nat.beq r12.e 1)
    ((nthP r12.vs 0).bind fun p13 =>
     p13.sc?.bind fun c14 =>
     (intAt .i64 [c14] 0).bind fun n15 =>
     some ⟨1, [.sc (.int .i64 n15)], r12.H⟩)
    (cond (Nat.beq r12.e 2)
     ((nthP r12.vs 0).bind fun p16 =>
      p16.sc?.bind fun c17 =>
      (intAt .i64 [c17] 0).bind fun n18 =>
      some ⟨1, [.sc (.int .i64 n18)], r12.H⟩)
     (none)))) := by kernel_rfl
/- loop.example/g03211/spec.l40Matrix -/
theorem e_sl40Matrix (C : Oracle) (a0 a1 : Int) (H : AH) : (procM P T C (.fn F.sl40Matrix) [.sc (.int .i64 a0), .sc (.int .i64 a1)] H).run =
  (newB H 1 [.int .i64 0, .int .i64 0, .int .i64 0, .int .i64 0]).bind fun h1 =>
  (newB h1.2 1 [.int .i64 1, .int .i64 0, .int .i64 0, .int .i64 0]).bind fun h2 =>
  (newB h2.2 1 [.int .i64 (IntKind.wrap .i64 (a0 - 1)), .int .i64 0, .int .i64 0, .int .i64 0]).bind fun h3 =>
  (newB h3.2 1 [.int .i64 0, .int .i64 (IntKind.wrap .i64 (Int.tdiv (IntKind.wrap .i64 (a0 + 1)) 2)), .int .i64 0, .int .i64 (IntKind.wrap .i64 (a0 - (IntKind.wrap .i64 (Int.tdiv (IntKind.wrap .i64 (a0 + 1)) 2))))]).bind fun h4 =>
  cond (a1 == 1)
  ((newB h4.2 1 [.sl ⟨h1.1, 0, 4, 4, true⟩, .sl ⟨h2.1, 0, 4, 4, true⟩, .sl ⟨h2.1, 0, 4, 4, true⟩, .sl ⟨h1.1, 0, 4, 4, true⟩]).bind fun h5 =>
   some ⟨1, [.sc (.sl ⟨h5.1, 0, 4, 4, true⟩)], h5.2⟩)
  (cond (a1 == 5)
   ((newB h4.2 1 [.int .i64 0, .int .i64 (IntKind.wrap .i64 (a0 - (IntKind.wrap .i64 (Int.tdiv (IntKind.wrap .i64 (a0 + 1)) 2)))), .int .i64 0, .int .i64 (IntKind.wrap .i64 (Int.tdiv (IntKind.wrap .i64 (a0 + 1)) 2))]).bind fun h6 =>
    (newB h6.2 1 [.sl ⟨h4.1, 0, 4, 4, true⟩, .sl ⟨h4.1, 0, 4, 4, true⟩, .sl ⟨h4.1, 0, 4, 4, true⟩, .sl ⟨h6.1, 0, 4, 4, true⟩]).bind fun h7 =>
    some ⟨1, [.sc (.sl ⟨h7.1, 0, 4, 4, true⟩)], h7.2⟩)
   (cond (a1 == 8)
    ((newB h4.2 1 [.sl ⟨h2.1, 0, 4, 4, true⟩, .sl ⟨h1.1, 0, 4, 4, true⟩, .sl ⟨h1.1, 0, 4, 4, true⟩, .sl ⟨h1.1, 0, 4, 4, true⟩, .sl ⟨h1.1, 0, 4, 4, true⟩, .sl ⟨h2.1, 0, 4, 4, true⟩, .sl ⟨h1.1, 0, 4, 4, true⟩, .sl ⟨h1.1, 0, 4, 4, true⟩, .sl ⟨h1.1, 0, 4, 4, true⟩, .sl ⟨h1.1, 0, 4, 4, true⟩, .sl ⟨h1.1, 0, 4, 4, true⟩, .sl ⟨h2.1, 0, 4, 4, true⟩, .sl ⟨h1.1, 0, 4, 4, true⟩, .sl ⟨h1.1, 0, 4, 4, true⟩, .sl ⟨h2.1, 0, 4, 4, true⟩, .sl ⟨h1.1, 0, 4, 4, true⟩]).bind fun h8 =>
     some ⟨1, [.sc (.sl ⟨h8.1, 0, 16, 16, true⟩)], h8.2⟩)
    (cond (a1 == 9)
     ((newB h4.2 1 [.sl ⟨h2.1, 0, 4, 4, true⟩, .sl ⟨h1.1, 0, 4, 4, true⟩, .sl ⟨h1.1, 0, 4, 4, true⟩, .sl ⟨h1.1, 0, 4, 4, true⟩, .sl ⟨h1.1, 0, 4, 4, true⟩, .sl ⟨h2.1, 0, 4, 4, true⟩, .sl ⟨h1.1, 0, 4, 4, true⟩, .sl ⟨h1.1, 0, 4, 4, true⟩, .sl ⟨h1.1, 0, 4, 4, true⟩, .sl ⟨h1.1, 0, 4, 4, true⟩, .sl ⟨h2.1, 0, 4, 4, true⟩, .sl ⟨h1.1, 0, 4, 4, true⟩, .sl ⟨h1.1, 0, 4, 4, true⟩, .sl ⟨h1.1, 0, 4, 4, true⟩, .sl ⟨h1.1, 0, 4, 4, true⟩, .sl ⟨h3.1, 0, 4, 4, true⟩]).bind fun h9 =>
      some ⟨1, [.sc (.sl ⟨h9.1, 0, 16, 16, true⟩)], h9.2⟩)
     (cond (a1 == 2)
      ((newB h4.2 1 [.sl ⟨h2.1, 0, 4, 4, true⟩, .sl ⟨h1.1, 0, 4, 4, true⟩, .sl ⟨h1.1, 0, 4, 4, true⟩, .sl ⟨h3.1, 0, 4, 4, true⟩]).bind fun h14 =>
       some ⟨1, [.sc (.sl ⟨h14.1, 0, 4, 4, true⟩)], h14.2⟩)
      (cond (a1 == 3)
       ((newB h4.2 1 [.int .i64 0, .int .i64 0, .int .i64 1, .int .i64 0]).bind fun h10 =>
        (newB h10.2 1 [.sl ⟨h2.1, 0, 4, 4, true⟩, .sl ⟨h1.1, 0, 4, 4, true⟩, .sl ⟨h1.1, 0, 4, 4, true⟩, .sl ⟨h10.1, 0, 4, 4, true⟩]).bind fun h15 =>
        some ⟨1, [.sc (.sl ⟨h15.1, 0, 4, 4, true⟩)], h15.2⟩)
       (cond (a1 == 4)
        ((newB h4.2 1 [.int .i64 0, .int .i64 1, .int .i64 0, .int .i64 0]).bind fun h11 =>
         (newB h11.2 1 [.sl ⟨h2.1, 0, 4, 4, true⟩, .sl ⟨h1.1, 0, 4, 4, true⟩, .sl ⟨h1.1, 0, 4, 4, true⟩, .sl ⟨h11.1, 0, 4, 4, true⟩]).bind fun h16 =>
         some ⟨1, [.sc (.sl ⟨h16.1, 0, 4, 4, true⟩)], h16.2⟩)
        (cond (a1 == 6)
         ((newB h4.2 1 [.int .i64 0, .int .i64 0, .int .i64 (IntKind.wrap .i64 (a0 - 1)), .int .i64 0]).bind fun h12 =>
          (newB h12.2 1 [.sl ⟨h2.1, 0, 4, 4, true⟩, .sl ⟨h1.1, 0, 4, 4, true⟩, .sl ⟨h1.1, 0, 4, 4, true⟩, .sl ⟨h12.1, 0, 4, 4, true⟩]).bind fun h17 =>
          some ⟨1, [.sc (.sl ⟨h17.1, 0, 4, 4, true⟩)], h17.2⟩)
         (cond (a1 == 7)
          ((newB h4.2 1 [.int .i64 0, .int .i64 0, .int .i64 0, .int .i64 (IntKind.wrap .i64 (a0 - 1))]).bind fun h13 =>
           (newB h13.2 1 [.sl ⟨h2.1, 0, 4, 4, true⟩, .sl ⟨h1.1, 0, 4, 4, true⟩, .sl ⟨h1.1, 0, 4, 4, true⟩, .sl ⟨h13.1, 0, 4, 4, true⟩]).bind fun h18 =>
           some ⟨1, [.sc (.sl ⟨h18.1, 0, 4, 4, true⟩)], h18.2⟩)
          ((newB h4.2 1 [.sl ⟨h2.1, 0, 4, 4, true⟩, .sl ⟨h1.1, 0, 4, 4, true⟩, .sl ⟨h1.1, 0, 4, 4, true⟩, .sl ⟨h2.1, 0, 4, 4, true⟩]).bind fun h19 =>
           some ⟨1, [.sc (.sl ⟨h19.1, 0, 4, 4, true⟩)], h19.2⟩))))))))) := by kernel_rfl
/- loop.example/g03211/laws.toGate -/
theorem e_wtoGate (C : Oracle) (a0_0 a0_1 a0_2 : Int) (H : AH) : (procM P T C (.fn F.wtoGate) [.agg [.int .i64 a0_0, .int .i64 a0_1, .int .i64 a0_2]] H).run =
  some ⟨1, [.agg [.int .i64 a0_0, .int .i64 a0_1, .int .i64 a0_2]], H⟩ := by kernel_rfl
/- loop.example/g03211/laws.eqGate -/
theorem e_weqGate (C : Oracle) (a0_0 a0_1 a0_2 a1_0 a1_1 a1_2 : Int) (H : AH) : (procM P T C (.fn F.weqGate) [.agg [.int .i64 a0_0, .int .i64 a0_1, .int .i64 a0_2], .agg [.int .i64 a1_0, .int .i64 a1_1, .int .i64 a1_2]] H).run =
  cond (a0_0 != a1_0)
  (some ⟨1, [.sc (.bool false)], H⟩)
  (cond (a0_1 != a1_1)
   (some ⟨1, [.sc (.bool false)], H⟩)
   (cond (a0_2 != a1_2)
    (some ⟨1, [.sc (.bool false)], H⟩)
    (some ⟨1, [.sc (.bool true)], H⟩))) := by kernel_rfl
/- loop.example/g03211/spec.l08Join -/
theorem e_sl08Join_0 (C : Oracle) (x7 x8 x19 : Sl) (x20 x21 : Int) (y3_0 y3_1 y3_2 : Sl) (H : AH) : (procM P T C (.loop F.sl08Join 0) [.sc (.sl x7), .sc (.sl x8), .sc (.sl x19), .sc (.int .i64 x20), .sc (.int .i64 x21), .agg [.sl y3_0, .sl y3_1, .sl y3_2]] H).run =
  cond (decide (x21 < x20))
  ((ixA x19 x21 1).bind fun o9 =>
   (rdB H x19.b).bind fun c10 =>
   (intAt .i64 c10 o9).bind fun n11 =>
   (C (.fn F.sl05Find) [.sc (.sl x7), .sc (.int .i64 n11)] H).bind fun r12 =>
   (oneP r12.vs).bind fun p13 =>
   p13.sc?.bind fun c14 =>
   (intAt .i64 [c14] 0).bind fun n15 =>
   ((cond (decide (n15 ≥ 0))
   ((ixA x8 n15 1).bind fun o16 =>
    (rdB r12.H x8.b).bind fun c17 =>
    (intAt .i64 c17 o16).bind fun n18 =>
    (ixA y3_1 x21 1).bind fun o19 =>
    (rdB r12.H y3_1.b).bind fun c20 =>
    (intAt .i64 c20 o19).bind fun n21 =>
    cond (n18 != n21)
    (some ⟨1, [.sc (.sl ⟨0, 0, 0, 0, true⟩), .sc (.sl ⟨0, 0, 0, 0, true⟩), .sc (.bool false)], r12.H⟩)
    (some ⟨0, [], r12.H⟩))
   (some ⟨0, [], r12.H⟩) : Option Out)).bind fun r22 =>
   cond (Nat.beq r22.e 0)
   (cond (decide (n15 < 0))
    ((newB r22.H 1 [.int .i64 n11]).bind fun h23 =>
     (rng h23.2 h23.1 0 (1 * 1)).bind fun l24 =>
     (appB h23.2 1 8 x7 l24 1).bind fun m25 =>
     (ixA y3_1 x21 1).bind fun o26 =>
     (rdB m25.2 y3_1.b).bind fun c27 =>
     (intAt .i64 c27 o26).bind fun n28 =>
     (newB m25.2 1 [.int .i64 n28]).bind fun h29 =>
     (rng h29.2 h29.1 0 (1 * 1)).bind fun l30 =>
     (appB h29.2 1 8 x8 l30 1).bind fun m31 =>
     C (.loop F.sl08Join 0) [.sc (.sl m25.1), .sc (.sl m31.1), .sc (.sl x19), .sc (.int .i64 x20), .sc (.int .i64 (IntKind.wrap .i64 (x21 + 1))), .agg [.sl y3_0, .sl y3_1, .sl y3_2]] m31.2)
    (C (.loop F.sl08Join 0) [.sc (.sl x7), .sc (.sl x8), .sc (.sl x19), .sc (.int .i64 x20), .sc (.int .i64 (IntKind.wrap .i64 (x21 + 1))), .agg [.sl y3_0, .sl y3_1, .sl y3_2]] r22.H))
   (cond (Nat.beq r22.e 1)
    ((nthP r22.vs 0).bind fun p32 =>
     p32.sc?.bind fun c33 =>
     (slAt [c33] 0).bind fun s34 =>
     (nthP r22.vs 1).bind fun p35 =>
     p35.sc?.bind fun c36 =>
     (slAt [c36] 0).bind fun s37 =>
     (nthP r22.vs 2).bind fun p38 =>
     p38.sc?.bind fun c39 =>
     (boolAt [c39] 0).bind fun b40 =>
     some ⟨1, [.sc (.sl s34), .sc (.sl s37), .sc (.bool b40)], r22.H⟩)
    (none)))
  (some ⟨2, [.sc (.sl x7), .sc (.sl x8)], H⟩) := by kernel_rfl
theorem e_sl08Join (C : Oracle) (a0_0 a0_1 a0_2 a1_0 a1_1 a1_2 : Sl) (H : AH) : (procM P T C (.fn F.sl08Join) [.agg [.sl a0_0, .sl a0_1, .sl a0_2], .agg [.sl a1_0, .sl a1_1, .sl a1_2]] H).run =
  (C (.fn F.sl05Ints) [.sc (.sl a0_0)] H).bind fun r1 =>
  (oneP r1.vs).bind fun p2 =>
  p2.sc?.bind fun c3 =>
  (slAt [c3] 0).bind fun s4 =>
  (C (.fn F.sl05Ints) [.sc (.sl a0_1)] r1.H).bind fun r5 =>
  (oneP r5.vs).bind fun p6 =>
  p6.sc?.bind fun c7 =>
  (slAt [c7] 0).bind fun s8 =>
  (C (.loop F.sl08Join 0) [.sc (.sl s4), .sc (.sl s8), .sc (.sl a1_0), .sc (.int .i64 (a1_0.n : Int)), .sc (.int .i64 0), .agg [.sl a1_0, .sl a1_1, .sl a1_2]] r5.H).bind fun r41 =>
  cond (Nat.beq r41.e 1)
  ((nthP r41.vs 0).bind fun p42 =>
   p42.sc?.bind fun c43 =>
   (slAt [c43] 0).bind fun s44 =>
   (nthP r41.vs 1).bind fun p45 =>
   p45.sc?.bind fun c46 =>
   (slAt [c46] 0).bind fun s47 =>
   (nthP r41.vs 2).bind fun p48 =>
   p48.sc?.bind fun c49 =>
   (boolAt [c49] 0).bind fun b50 =>
   some ⟨1, [.sc (.sl s44), .sc (.sl s47), .sc (.bool b50)], r41.H⟩)
  (cond (Nat.beq r41.e 2)
   ((nthP r41.vs 0).bind fun p51 =>
    p51.sc?.bind fun c52 =>
    (slAt [c52] 0).bind fun s53 =>
    (nthP r41.vs 1).bind fun p54 =>
    p54.sc?.bind fun c55 =>
    (slAt [c55] 0).bind fun s56 =>
    some ⟨1, [.sc (.sl s53), .sc (.sl s56), .sc (.bool true)], r41.H⟩)
   (none)) := by kernel_rfl
/- loop.example/g03211/spec.l08Keep -/
theorem e_sl08Keep_0 (C : Oracle) (x1 x2 x11 : Sl) (x12 x13 : Int) (y7_0 y7_1 y7_2 : Sl) (H : AH) : (procM P T C (.loop F.sl08Keep 0) [.sc (.sl x1), .sc (.sl x2), .sc (.sl x11), .sc (.int .i64 x12), .sc (.int .i64 x13), .agg [.sl y7_0, .sl y7_1, .sl y7_2]] H).run =
  cond (decide (x13 < x12))
  ((ixA x11 x13 1).bind fun o1 =>
   (rdB H x11.b).bind fun c2 =>
   (intAt .i64 c2 o1).bind fun n3 =>
   (C (.fn F.sl05Find) [.sc (.sl x2), .sc (.int .i64 n3)] H).bind fun r4 =>
   (oneP r4.vs).bind fun p5 =>
   p5.sc?.bind fun c6 =>
   (intAt .i64 [c6] 0).bind fun n7 =>
   cond (decide (n7 ≥ 0))
   ((newB r4.H 1 [.int .i64 n3]).bind fun h8 =>
    (rng h8.2 h8.1 0 (1 * 1)).bind fun l9 =>
    (appB h8.2 1 8 y7_0 l9 1).bind fun m10 =>
    (ixA x1 x13 1).bind fun o11 =>
    (rdB (reserve m10.2 1) x1.b).bind fun c12 =>
    (intAt .i64 c12 o11).bind fun n13 =>
    (newAt (reserve m10.2 1) (m10.2.length + 0) 1 [.int .i64 n13]).bind fun h14 =>
    (rng h14.2 h14.1 0 (1 * 1)).bind fun l15 =>
    (appB h14.2 1 8 y7_1 l15 1).bind fun m16 =>
    C (.loop F.sl08Keep 0) [.sc (.sl x1), .sc (.sl x2), .sc (.sl x11), .sc (.int .i64 x12), .sc (.int .i64 (IntKind.wrap .i64 (x13 + 1))), .agg [.sl m10.1, .sl m16.1, .sl y7_2]] m16.2)
   (C (.loop F.sl08Keep 0) [.sc (.sl x1), .sc (.sl x2), .sc (.sl x11), .sc (.int .i64 x12), .sc (.int .i64 (IntKind.wrap .i64 (x13 + 1))), .agg [.sl y7_0, .sl y7_1, .sl y7_2]] r4.H))
  (some ⟨2, [.agg [.sl y7_0, .sl y7_1, .sl y7_2]], H⟩) := by kernel_rfl
theorem e_sl08Keep (C : Oracle) (a0 a1 a2 : Sl) (H : AH) : (procM P T C (.fn F.sl08Keep) [.sc (.sl a0), .sc (.sl a1), .sc (.sl a2)] H).run =
  (C (.loop F.sl08Keep 0) [.sc (.sl a1), .sc (.sl a2), .sc (.sl a0), .sc (.int .i64 (a0.n : Int)), .sc (.int .i64 0), .agg [.sl ⟨0, 0, 0, 0, true⟩, .sl ⟨0, 0, 0, 0, true⟩, .sl ⟨0, 0, 0, 0, true⟩]] H).bind fun r17 =>
  cond (Nat.beq r17.e 2)
  (((nthP r17.vs 0).bind PV.agg?).bind fun l18 =>
   cond (decide (l18.length = 3))
   ((slAt l18 0).bind fun s19 =>
    (slAt l18 1).bind fun s20 =>
    (slAt l18 2).bind fun s21 =>
    some ⟨1, [.agg [.sl s19, .sl s20, .sl s21]], r17.H⟩)
   (none))
  (none) := by kernel_rfl
/- loop.example/g03211/spec.l08Steps -/
theorem e_sl08Steps_0 (C : Oracle) (x1 x5 : Sl) (x6 x7 : Int) (y2_0 y2_1 y2_2 : Sl) (H : AH) : (procM P T C (.loop F.sl08Steps 0) [.sc (.sl x1), .sc (.sl x5), .sc (.int .i64 x6), .sc (.int .i64 x7), .agg [.sl y2_0, .sl y2_1, .sl y2_2]] H).run =
  cond (decide (x7 ≥ 0))
  ((((ixA y2_0 x7 1).bind fun o2 =>
   (rdB H y2_0.b).bind fun c3 =>
   (intAt .i64 c3 o2).bind fun n4 =>
   (C (.fn F.sl05Find) [.sc (.sl x1), .sc (.int .i64 n4)] H).bind fun r5 =>
   (oneP r5.vs).bind fun p6 =>
   p6.sc?.bind fun c7 =>
   (intAt .i64 [c7] 0).bind fun n8 =>
   cond (decide (n8 ≥ 0))
   ((ixA x5 n8 1).bind fun o9 =>
    (putR r5.H x5.b o9 [.int .i64 x6]).bind fun H10 =>
    some ⟨0, [], H10⟩)
   (some ⟨0, [], r5.H⟩) : Option Out)).bind fun r11 =>
   cond (Nat.beq r11.e 0)
   ((ixA y2_1 x7 1).bind fun o12 =>
    (rdB r11.H y2_1.b).bind fun c13 =>
    (intAt .i64 c13 o12).bind fun n14 =>
    C (.loop F.sl08Steps 0) [.sc (.sl x1), .sc (.sl x5), .sc (.int .i64 (IntKind.wrap .i64 (x6 * n14))), .sc (.int .i64 (IntKind.wrap .i64 (x7 - 1))), .agg [.sl y2_0, .sl y2_1, .sl y2_2]] r11.H)
   (none))
  (some ⟨2, [], H⟩) := by kernel_rfl
theorem e_sl08Steps (C : Oracle) (a0_0 a0_1 a0_2 a1 : Sl) (H : AH) : (procM P T C (.fn F.sl08Steps) [.agg [.sl a0_0, .sl a0_1, .sl a0_2], .sc (.sl a1)] H).run =
  (mkB H 1 8 [.int .i64 0] (a1.n : Int) (a1.n : Int)).bind fun m1 =>
  (C (.loop F.sl08Steps 0) [.sc (.sl a1), .sc (.sl m1.1), .sc (.int .i64 1), .sc (.int .i64 (IntKind.wrap .i64 ((a0_0.n : Int) - 1))), .agg [.sl a0_0, .sl a0_1, .sl a0_2]] m1.2).bind fun r15 =>
  cond (Nat.beq r15.e 2)
  (some ⟨1, [.sc (.sl m1.1)], r15.H⟩)
  (none) := by kernel_rfl
/- loop.example/g03211/spec.l02Add -/
theorem e_sl02Add_0 (C : Oracle) (x1 x2 x7 : Sl) (x13 x14 y3_0 y3_1 y3_2 : Int) (H : AH) : (procM P T C (.loop F.sl02Add 0) [.sc (.sl x1), .sc (.sl x2), .sc (.sl x7), .sc (.int .i64 x13), .sc (.int .i64 x14), .agg [.int .i64 y3_0, .int .i64 y3_1, .int .i64 y3_2]] H).run =
  cond (decide (x14 < x13))
  (((cond (y3_0 == 1)
   (some ⟨0, [.sc (.bool (y3_0 == 1))], H⟩)
   (some ⟨0, [.sc (.bool (y3_0 == 6))], H⟩) : Option Out)).bind fun r2 =>
   cond (Nat.beq r2.e 0)
   ((nthP r2.vs 0).bind fun p3 =>
    p3.sc?.bind fun c4 =>
    (boolAt [c4] 0).bind fun b5 =>
    cond b5
    ((ixA x1 x14 1).bind fun o6 =>
     (rdB r2.H x1.b).bind fun c7 =>
     (intAt .i64 c7 o6).bind fun n8 =>
     (ixA x2 x14 1).bind fun o9 =>
     (rdB r2.H x2.b).bind fun c10 =>
     (intAt .i64 c10 o9).bind fun n11 =>
     (ixA x7 x14 1).bind fun o12 =>
     (putR r2.H x7.b o12 [.int .i64 (bitOr .i64 n8 n11)]).bind fun H13 =>
     C (.loop F.sl02Add 0) [.sc (.sl x1), .sc (.sl x2), .sc (.sl x7), .sc (.int .i64 x13), .sc (.int .i64 (IntKind.wrap .i64 (x14 + 1))), .agg [.int .i64 y3_0, .int .i64 y3_1, .int .i64 y3_2]] H13)
    (cond (y3_0 == 3)
     ((ixA x1 x14 1).bind fun o14 =>
      (rdB r2.H x1.b).bind fun c15 =>
      (intAt .i64 c15 o14).bind fun n16 =>
      (ixA x2 x14 1).bind fun o17 =>
      (rdB r2.H x2.b).bind fun c18 =>
      (intAt .i64 c18 o17).bind fun n19 =>
      (ixA x7 x14 1).bind fun o20 =>
      (putR r2.H x7.b o20 [.int .i64 (if y3_1 < IntKind.wrap .i64 (n16 + n19) then y3_1 else IntKind.wrap .i64 (n16 + n19))]).bind fun H21 =>
      C (.loop F.sl02Add 0) [.sc (.sl x1), .sc (.sl x2), .sc (.sl x7), .sc (.int .i64 x13), .sc (.int .i64 (IntKind.wrap .i64 (x14 + 1))), .agg [.int .i64 y3_0, .int .i64 y3_1, .int .i64 y3_2]] H21)
     (cond (y3_0 == 4)
      ((ixA x1 x14 1).bind fun o22 =>
       (rdB r2.H x1.b).bind fun c23 =>
       (intAt .i64 c23 o22).bind fun n24 =>
       (ixA x2 x14 1).bind fun o25 =>
       (rdB r2.H x2.b).bind fun c26 =>
       (intAt .i64 c26 o25).bind fun n27 =>
       (ixA x7 x14 1).bind fun o28 =>
       (putR r2.H x7.b o28 [.int .i64 (if n27 < n24 then n27 else n24)]).bind fun H29 =>
       C (.loop F.sl02Add 0) [.sc (.sl x1), .sc (.sl x2), .sc (.sl x7), .sc (.int .i64 x13), .sc (.int .i64 (IntKind.wrap .i64 (x14 + 1))), .agg [.int .i64 y3_0, .int .i64 y3_1, .int .i64 y3_2]] H29)
      (cond (y3_0 == 5)
       ((ixA x1 x14 1).bind fun o30 =>
        (rdB r2.H x1.b).bind fun c31 =>
        (intAt .i64 c31 o30).bind fun n32 =>
        (ixA x2 x14 1).bind fun o33 =>
        (rdB r2.H x2.b).bind fun c34 =>
        (intAt .i64 c34 o33).bind fun n35 =>
        (ixA x7 x14 1).bind fun o36 =>
        (putR r2.H x7.b o36 [.int .i64 (if n35 > n32 then n35 else n32)]).bind fun H37 =>
        C (.loop F.sl02Add 0) [.sc (.sl x1), .sc (.sl x2), .sc (.sl x7), .sc (.int .i64 x13), .sc (.int .i64 (IntKind.wrap .i64 (x14 + 1))), .agg [.int .i64 y3_0, .int .i64 y3_1, .int .i64 y3_2]] H37)
       ((ixA x1 x14 1).bind fun o38 =>
        (rdB r2.H x1.b).bind fun c39 =>
        (intAt .i64 c39 o38).bind fun n40 =>
        (ixA x2 x14 1).bind fun o41 =>
        (rdB r2.H x2.b).bind fun c42 =>
        (intAt .i64 c42 o41).bind fun n43 =>
        cond (y3_1 == 0)
        (none)
        ((ixA x7 x14 1).bind fun o44 =>
         (putR r2.H x7.b o44 [.int .i64 (Int.tmod (IntKind.wrap .i64 (n40 + n43)) y3_1)]).bind fun H45 =>
         C (.loop F.sl02Add 0) [.sc (.sl x1), .sc (.sl x2), .sc (.sl x7), .sc (.int .i64 x13), .sc (.int .i64 (IntKind.wrap .i64 (x14 + 1))), .agg [.int .i64 y3_0, .int .i64 y3_1, .int .i64 y3_2]] H45))))))
   (none))
  (some ⟨2, [], H⟩) := by kernel_rfl
theorem e_sl02Add (C : Oracle) (a0_0 a0_1 a0_2 : Int) (a1 a2 : Sl) (H : AH) : (procM P T C (.fn F.sl02Add) [.agg [.int .i64 a0_0, .int .i64 a0_1, .int .i64 a0_2], .sc (.sl a1), .sc (.sl a2)] H).run =
  (mkB H 1 8 [.int .i64 0] (a1.n : Int) (a1.n : Int)).bind fun m1 =>
  (C (.loop F.sl02Add 0) [.sc (.sl a1), .sc (.sl a2), .sc (.sl m1.1), .sc (.int .i64 (a1.n : Int)), .sc (.int .i64 0), .agg [.int .i64 a0_0, .int .i64 a0_1, .int .i64 a0_2]] m1.2).bind fun r46 =>
  cond (Nat.beq r46.e 2)
  (some ⟨1, [.sc (.sl m1.1)], r46.H⟩)
  (none) := by kernel_rfl
/- loop.example/g03211/spec.l05Axes -/
theorem e_sl05Axes_0 (C : Oracle) (x0 x1 x17 : Sl) (x18 x19 : Int) (H : AH) : (procM P T C (.loop F.sl05Axes 0) [.sc (.sl x0), .sc (.sl x1), .sc (.sl x17), .sc (.int .i64 x18), .sc (.int .i64 x19)] H).run =
  cond (decide (x19 < x18))
  ((ixA x17 x19 1).bind fun o1 =>
   (rdB H x17.b).bind fun c2 =>
   (intAt .i64 c2 o1).bind fun n3 =>
   (C (.fn F.sl01In) [.sc (.int .i64 n3), .sc (.int .i64 0), .sc (.int .i64 99)] H).bind fun r4 =>
   (oneP r4.vs).bind fun p5 =>
   p5.sc?.bind fun c6 =>
   (boolAt [c6] 0).bind fun b7 =>
   cond (!b7)
   (some ⟨1, [.sc (.bool false)], r4.H⟩)
   ((ixA x1 x19 1).bind fun o8 =>
    (rdB r4.H x1.b).bind fun c9 =>
    (intAt .i64 c9 o8).bind fun n10 =>
    (C (.fn F.sl01In) [.sc (.int .i64 n10), .sc (.int .i64 1), .sc (.int .i64 8)] r4.H).bind fun r11 =>
    (oneP r11.vs).bind fun p12 =>
    p12.sc?.bind fun c13 =>
    (boolAt [c13] 0).bind fun b14 =>
    cond (!b14)
    (some ⟨1, [.sc (.bool false)], r11.H⟩)
    ((slB x0 none (some x19) none 1).bind fun s15 =>
     (C (.fn F.sl05Find) [.sc (.sl s15), .sc (.int .i64 n3)] r11.H).bind fun r16 =>
     (oneP r16.vs).bind fun p17 =>
     p17.sc?.bind fun c18 =>
     (intAt .i64 [c18] 0).bind fun n19 =>
     cond (decide (n19 ≥ 0))
     (some ⟨1, [.sc (.bool false)], r16.H⟩)
     (C (.loop F.sl05Axes 0) [.sc (.sl x0), .sc (.sl x1), .sc (.sl x17), .sc (.int .i64 x18), .sc (.int .i64 (IntKind.wrap .i64 (x19 + 1)))] r16.H))))
  (some ⟨2, [], H⟩) := by kernel_rfl
theorem e_sl05Axes (C : Oracle) (a0 a1 : Sl) (H : AH) : (procM P T C (.fn F.sl05Axes) [.sc (.sl a0), .sc (.sl a1)] H).run =
  cond (decide ((a0.n : Int) > 12))
  (some ⟨1, [.sc (.bool false)], H⟩)
  (cond ((a0.n : Int) != (a1.n : Int))
   (some ⟨1, [.sc (.bool false)], H⟩)
   ((C (.loop F.sl05Axes 0) [.sc (.sl a0), .sc (.sl a1), .sc (.sl a0), .sc (.int .i64 (a0.n : Int)), .sc (.int .i64 0)] H).bind fun r20 =>
    cond (Nat.beq r20.e 1)
    ((nthP r20.vs 0).bind fun p21 =>
     p21.sc?.bind fun c22 =>
     (boolAt [c22] 0).bind fun b23 =>
     some ⟨1, [.sc (.bool b23)], r20.H⟩)
    (cond (Nat.beq r20.e 2)
     (some ⟨1, [.sc (.bool true)], r20.H⟩)
     (none)))) := by kernel_rfl
/- loop.example/g03211/spec.l02Elem -/
theorem e_sl02Elem_0 (C : Oracle) (x7 : Sl) (x8 x9 y2_0 y2_1 y2_2 : Int) (H : AH) : (procM P T C (.loop F.sl02Elem 0) [.sc (.sl x7), .sc (.int .i64 x8), .sc (.int .i64 x9), .agg [.int .i64 y2_0, .int .i64 y2_1, .int .i64 y2_2]] H).run =
  cond (decide (x9 < x8))
  ((ixA x7 x9 1).bind fun o1 =>
   (rdB H x7.b).bind fun c2 =>
   (intAt .i64 c2 o1).bind fun n3 =>
   (C (.fn F.sl02Top) [.agg [.int .i64 y2_0, .int .i64 y2_1, .int .i64 y2_2]] H).bind fun r4 =>
   (oneP r4.vs).bind fun p5 =>
   p5.sc?.bind fun c6 =>
   (intAt .i64 [c6] 0).bind fun n7 =>
   (C (.fn F.sl01In) [.sc (.int .i64 n3), .sc (.int .i64 0), .sc (.int .i64 n7)] r4.H).bind fun r8 =>
   (oneP r8.vs).bind fun p9 =>
   p9.sc?.bind fun c10 =>
   (boolAt [c10] 0).bind fun b11 =>
   cond (!b11)
   (some ⟨1, [.sc (.bool false)], r8.H⟩)
   (C (.loop F.sl02Elem 0) [.sc (.sl x7), .sc (.int .i64 x8), .sc (.int .i64 (IntKind.wrap .i64 (x9 + 1))), .agg [.int .i64 y2_0, .int .i64 y2_1, .int .i64 y2_2]] r8.H))
  (some ⟨2, [], H⟩) := by kernel_rfl
theorem e_sl02Elem (C : Oracle) (a0_0 a0_1 a0_2 : Int) (a1 : Sl) (H : AH) : (procM P T C (.fn F.sl02Elem) [.agg [.int .i64 a0_0, .int .i64 a0_1, .int .i64 a0_2], .sc (.sl a1)] H).run =
  (C (.loop F.sl02Elem 0) [.sc (.sl a1), .sc (.int .i64 (a1.n : Int)), .sc (.int .i64 0), .agg [.int .i64 a0_0, .int .i64 a0_1, .int .i64 a0_2]] H).bind fun r12 =>
  cond (Nat.beq r12.e 1)
  ((nthP r12.vs 0).bind fun p13 =>
   p13.sc?.bind fun c14 =>
   (boolAt [c14] 0).bind fun b15 =>
   some ⟨1, [.sc (.bool b15)], r12.H⟩)
  (cond (Nat.beq r12.e 2)
   ((C (.fn F.sl02Width) [.agg [.int .i64 a0_0, .int .i64 a0_1, .int .i64 a0_2]] r12.H).bind fun r16 =>
    (oneP r16.vs).bind fun p17 =>
    p17.sc?.bind fun c18 =>
    (intAt .i64 [c18] 0).bind fun n19 =>
    some ⟨1, [.sc (.bool ((a1.n : Int) == n19))], r16.H⟩)
   (none)) := by kernel_rfl
/- loop.example/g03211/impl.inRing -/
theorem e_iinRing_0 (C : Oracle) (x5 : Int) (x10 : Sl) (x11 x12 : Int) (H : AH) : (procM P T C (.loop F.iinRing 0) [.sc (.int .i64 x5), .sc (.sl x10), .sc (.int .i64 x11), .sc (.int .i64 x12)] H).run =
  cond (decide (x12 < x11))
  ((ixA x10 x12 1).bind fun o5 =>
   (rdB H x10.b).bind fun c6 =>
   (intAt .i64 c6 o5).bind fun n7 =>
   cond (decide (n7 < 0))
   (some ⟨1, [.sc (.bool false)], H⟩)
   (cond (decide (n7 > x5))
    (some ⟨1, [.sc (.bool false)], H⟩)
    (C (.loop F.iinRing 0) [.sc (.int .i64 x5), .sc (.sl x10), .sc (.int .i64 x11), .sc (.int .i64 (IntKind.wrap .i64 (x12 + 1)))] H)))
  (some ⟨2, [], H⟩) := by kernel_rfl
theorem e_iinRing (C : Oracle) (a0_0 a0_1 a0_2 : Int) (a1 : Sl) (H : AH) : (procM P T C (.fn F.iinRing) [.agg [.int .i64 a0_0, .int .i64 a0_1, .int .i64 a0_2], .sc (.sl a1)] H).run =
  (C (.fn F.irawTop) [.agg [.int .i64 a0_0, .int .i64 a0_1, .int .i64 a0_2]] H).bind fun r1 =>
  (oneP r1.vs).bind fun p2 =>
  p2.sc?.bind fun c3 =>
  (intAt .i64 [c3] 0).bind fun n4 =>
  (C (.loop F.iinRing 0) [.sc (.int .i64 n4), .sc (.sl a1), .sc (.int .i64 (a1.n : Int)), .sc (.int .i64 0)] r1.H).bind fun r8 =>
  cond (Nat.beq r8.e 1)
  ((nthP r8.vs 0).bind fun p9 =>
   p9.sc?.bind fun c10 =>
   (boolAt [c10] 0).bind fun b11 =>
   some ⟨1, [.sc (.bool b11)], r8.H⟩)
  (cond (Nat.beq r8.e 2)
   (some ⟨1, [.sc (.bool true)], r8.H⟩)
   (none)) := by kernel_rfl
/- loop.example/g03211/impl.mulCoefficients -/
theorem e_imulCoefficients_0 (C : Oracle) (x1 x2 x3 : Sl) (x14 x15 y4_0 y4_1 y4_2 : Int) (H : AH) : (procM P T C (.loop F.imulCoefficients 0) [.sc (.sl x1), .sc (.sl x2), .sc (.sl x3), .sc (.int .i64 x14), .sc (.int .i64 x15), .agg [.int .i64 y4_0, .int .i64 y4_1, .int .i64 y4_2]] H).run =
  cond (decide (x15 < x14))
  ((C (.loop F.imulCoefficients 1) [.sc (.sl x1), .sc (.sl x2), .sc (.sl x3), .sc (.int .i64 x15), .sc (.int .i64 (x3.n : Int)), .sc (.int .i64 0), .agg [.int .i64 y4_0, .int .i64 y4_1, .int .i64 y4_2]] H).bind fun r18 =>
   cond (Nat.beq r18.e 4)
   (C (.loop F.imulCoefficients 0) [.sc (.sl x1), .sc (.sl x2), .sc (.sl x3), .sc (.int .i64 x14), .sc (.int .i64 (IntKind.wrap .i64 (x15 + 1))), .agg [.int .i64 y4_0, .int .i64 y4_1, .int .i64 y4_2]] r18.H)
   (none))
  (some ⟨2, [], H⟩) := by kernel_rfl
theorem e_imulCoefficients_1 (C : Oracle) (x1 x2 x3 : Sl) (x8 x19 x20 y4_0 y4_1 y4_2 : Int) (H : AH) : (procM P T C (.loop F.imulCoefficients 1) [.sc (.sl x1), .sc (.sl x2), .sc (.sl x3), .sc (.int .i64 x8), .sc (.int .i64 x19), .sc (.int .i64 x20), .agg [.int .i64 y4_0, .int .i64 y4_1, .int .i64 y4_2]] H).run =
  cond (decide (x20 < x19))
  ((ixA x2 x8 1).bind fun o2 =>
   (rdB H x2.b).bind fun c3 =>
   (intAt .i64 c3 o2).bind fun n4 =>
   (ixA x3 x20 1).bind fun o5 =>
   (rdB H x3.b).bind fun c6 =>
   (intAt .i64 c6 o5).bind fun n7 =>
   cond (y4_1 == 0)
   (none)
   (cond (decide ((IntKind.wrap .i64 (x8 + x20)) < (x1.n : Int)))
    ((ixA x1 (IntKind.wrap .i64 (x8 + x20)) 1).bind fun o8 =>
     (rdB H x1.b).bind fun c9 =>
     (intAt .i64 c9 o8).bind fun n10 =>
     cond (y4_1 == 0)
     (none)
     ((ixA x1 (IntKind.wrap .i64 (x8 + x20)) 1).bind fun o11 =>
      (putR H x1.b o11 [.int .i64 (Int.tmod (IntKind.wrap .i64 (n10 + (Int.tmod (IntKind.wrap .i64 (n4 * n7)) y4_1))) y4_1)]).bind fun H12 =>
      C (.loop F.imulCoefficients 1) [.sc (.sl x1), .sc (.sl x2), .sc (.sl x3), .sc (.int .i64 x8), .sc (.int .i64 x19), .sc (.int .i64 (IntKind.wrap .i64 (x20 + 1))), .agg [.int .i64 y4_0, .int .i64 y4_1, .int .i64 y4_2]] H12))
    (cond (y4_0 == 8)
     ((ixA x1 (IntKind.wrap .i64 ((IntKind.wrap .i64 (x8 + x20)) - 4)) 1).bind fun o13 =>
      (rdB H x1.b).bind fun c14 =>
      (intAt .i64 c14 o13).bind fun n15 =>
      cond (y4_1 == 0)
      (none)
      ((ixA x1 (IntKind.wrap .i64 ((IntKind.wrap .i64 (x8 + x20)) - 4)) 1).bind fun o16 =>
       (putR H x1.b o16 [.int .i64 (Int.tmod (IntKind.wrap .i64 ((IntKind.wrap .i64 (n15 + y4_1)) - (Int.tmod (IntKind.wrap .i64 (n4 * n7)) y4_1))) y4_1)]).bind fun H17 =>
       C (.loop F.imulCoefficients 1) [.sc (.sl x1), .sc (.sl x2), .sc (.sl x3), .sc (.int .i64 x8), .sc (.int .i64 x19), .sc (.int .i64 (IntKind.wrap .i64 (x20 + 1))), .agg [.int .i64 y4_0, .int .i64 y4_1, .int .i64 y4_2]] H17))
     (C (.loop F.imulCoefficients 1) [.sc (.sl x1), .sc (.sl x2), .sc (.sl x3), .sc (.int .i64 x8), .sc (.int .i64 x19), .sc (.int .i64 (IntKind.wrap .i64 (x20 + 1))), .agg [.int .i64 y4_0, .int .i64 y4_1, .int .i64 y4_2]] H))))
  (some ⟨4, [], H⟩) := by kernel_rfl
theorem e_imulCoefficients (C : Oracle) (a0_0 a0_1 a0_2 : Int) (a1 a2 a3 : Sl) (H : AH) : (procM P T C (.fn F.imulCoefficients) [.agg [.int .i64 a0_0, .int .i64 a0_1, .int .i64 a0_2], .sc (.sl a1), .sc (.sl a2), .sc (.sl a3)] H).run =
  (clrB H a1 [.int .i64 0]).bind fun H1 =>
  (C (.loop F.imulCoefficients 0) [.sc (.sl a1), .sc (.sl a2), .sc (.sl a3), .sc (.int .i64 (a2.n : Int)), .sc (.int .i64 0), .agg [.int .i64 a0_0, .int .i64 a0_1, .int .i64 a0_2]] H1).bind fun r19 =>
  cond (Nat.beq r19.e 2)
  (some ⟨1, [], r19.H⟩)
  (none) := by kernel_rfl
end Go.Abs
