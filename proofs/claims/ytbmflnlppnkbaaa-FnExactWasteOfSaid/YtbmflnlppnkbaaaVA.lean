/- The functions of the program, each with what suffices for its contract: printed by vgen.py, checked by the kernel. -/
import Derived.Test.YtbmflnlppnkbaaaT
namespace Go.Proofs.Ytbmflnlppnkbaaa
open Go Go.Proofs.Ytbmflnlppnkbaaa.DL
set_option maxRecDepth 100000
def sg : FuncId → RS
  | 0 => .tup []
  | 1 => .tup []
  | 2 => .tup []
  | 3 => .one false (tb 4).zero
  | 4 => .one false (tb 4).zero
  | 5 => .one false (tb 4).zero
  | 6 => .one false (tb 4).zero
  | 7 => .one false (tb 4).zero
  | 8 => .one false (tb 4).zero
  | 9 => .one false (tb 4).zero
  | 10 => .one false (tb 4).zero
  | 11 => .one false (tb 4).zero
  | 12 => .one false (tb 4).zero
  | 13 => .one false (tb 4).zero
  | 14 => .one false (tb 4).zero
  | 15 => .one false (tb 4).zero
  | 16 => .one true (tb 25).zero
  | 17 => .one false (tb 4).zero
  | 18 => .one false (tb 28).zero
  | 19 => .one false (tb 28).zero
  | 20 => .one false (tb 28).zero
  | 21 => .one false (tb 4).zero
  | 22 => .one false (tb 3).zero
  | 23 => .one false (tb 3).zero
  | 24 => .one false (tb 3).zero
  | 25 => .one false (tb 3).zero
  | 26 => .one true (tb 37).zero
  | 27 => .one false (tb 3).zero
  | 28 => .one false (tb 4).zero
  | 29 => .one false (tb 3).zero
  | 30 => .one false (tb 4).zero
  | 31 => .one false (tb 44).zero
  | 32 => .one false (tb 4).zero
  | 33 => .one false (tb 4).zero
  | 34 => .tup [(false, (tb 48).zero), (false, (tb 4).zero)]
  | 35 => .one false (tb 48).zero
  | 36 => .tup [(false, (tb 48).zero), (false, (tb 4).zero)]
  | 37 => .one false (tb 4).zero
  | 38 => .one false (tb 3).zero
  | 39 => .one false (tb 3).zero
  | 40 => .tup [(false, (tb 48).zero), (false, (tb 4).zero)]
  | 41 => .tup [(false, (tb 48).zero), (false, (tb 4).zero)]
  | 42 => .one false (tb 3).zero
  | 43 => .one true (tb 60).zero
  | 44 => .one false (tb 3).zero
  | 45 => .one false (tb 4).zero
  | 46 => .one false (tb 4).zero
  | 47 => .one false (tb 3).zero
  | 48 => .tup [(true, (tb 25).zero), (false, (tb 4).zero)]
  | 49 => .one true (tb 74).zero
  | 50 => .one true (tb 78).zero
  | 51 => .tup [(true, (tb 25).zero), (false, (tb 4).zero)]
  | 52 => .one false (tb 4).zero
  | 53 => .one false (tb 4).zero
  | 54 => .one true (tb 74).zero
  | 55 => .one true (tb 74).zero
  | 56 => .one false (tb 3).zero
  | 57 => .one false (tb 3).zero
  | 58 => .one true (tb 37).zero
  | 59 => .one true (tb 37).zero
  | 60 => .one false (tb 3).zero
  | 61 => .one false (tb 3).zero
  | 62 => .one true (tb 74).zero
  | 63 => .one true (tb 74).zero
  | 64 => .one false (tb 28).zero
  | 65 => .tup []
  | 66 => .one false (tb 3).zero
  | 67 => .one false (tb 4).zero
  | 68 => .one false (tb 4).zero
  | 69 => .one false (tb 4).zero
  | 70 => .tup [(false, (tb 48).zero), (false, (tb 4).zero)]
  | 71 => .tup [(false, (tb 3).zero), (false, (tb 4).zero)]
  | 72 => .tup [(false, (tb 48).zero), (false, (tb 4).zero)]
  | 73 => .tup [(false, (tb 48).zero), (false, (tb 4).zero)]
  | 74 => .one false (tb 48).zero
  | 75 => .tup [(false, (tb 48).zero), (false, (tb 4).zero)]
  | 76 => .one false (tb 3).zero
  | 77 => .one false (tb 3).zero
  | 78 => .one false (tb 4).zero
  | 79 => .one false (tb 4).zero
  | 80 => .one false (tb 4).zero
  | 81 => .one false (tb 4).zero
  | 82 => .one false (tb 4).zero
  | 83 => .one false (tb 4).zero
  | 84 => .one false (tb 4).zero
  | 85 => .one true (tb 76).zero
  | 86 => .one false (tb 3).zero
  | 87 => .one false (tb 3).zero
  | 88 => .one true (tb 74).zero
  | 89 => .one false (tb 3).zero
  | 90 => .one false (tb 4).zero
  | 91 => .one false (tb 4).zero
  | 92 => .one false (tb 3).zero
  | 93 => .one false (tb 3).zero
  | 94 => .one false (tb 4).zero
  | 95 => .one false (tb 4).zero
  | 96 => .one false (tb 4).zero
  | 97 => .one false (tb 3).zero
  | 98 => .one false (tb 3).zero
  | 99 => .one false (tb 9).zero
  | 100 => .tup []
  | 101 => .one false (tb 9).zero
  | 102 => .tup []
  | 103 => .one false (tb 9).zero
  | 104 => .tup []
  | 105 => .one false (tb 9).zero
  | 106 => .tup []
  | 107 => .one false (tb 9).zero
  | 108 => .tup []
  | 109 => .one false (tb 9).zero
  | 110 => .tup []
  | 111 => .one false (tb 3).zero
  | 112 => .one false (tb 9).zero
  | 113 => .tup []
  | 114 => .one false (tb 9).zero
  | _ => .one false [.un]
def io : FuncId → Option Nat
  | 22 => some 0
  | 38 => some 0
  | 56 => some 0
  | 60 => some 0
  | 65 => some 0
  | 86 => some 0
  | _ => none
def dy : RS := .one false [.sc (.bool false)]
abbrev F_main_main : FuncId := 0
abbrev F_gosem_cut : FuncId := 1
abbrev F_gosem_cut_init : FuncId := 2
abbrev F_laws_FnExactApart : FuncId := 3
abbrev F_laws_FnExactTagsDown : FuncId := 4
abbrev F_laws_FnExactNextOf : FuncId := 5
abbrev F_laws_FnExactAllApart : FuncId := 6
abbrev F_laws_FnExactReadThing : FuncId := 7
abbrev F_laws_FnExactWriteThing : FuncId := 8
abbrev F_laws_FnExactOwnSteps : FuncId := 9
abbrev F_laws_FnExactWasteOk : FuncId := 10
abbrev F_laws_FnExactThingOf : FuncId := 11
abbrev F_laws_FnExactGone : FuncId := 12
abbrev F_laws_FnExactWasteOf : FuncId := 13
abbrev F_laws_FnExactEmptied : FuncId := 14
abbrev F_spec_Apart : FuncId := 15
abbrev F_laws_toThing : FuncId := 16
abbrev F_impl_Apart : FuncId := 17
abbrev F_spec_TagsDown : FuncId := 18
abbrev F_laws_toIntS : FuncId := 19
abbrev F_impl_TagsDown : FuncId := 20
abbrev F_laws_eqIntS : FuncId := 21
abbrev F_laws_markIntS : FuncId := 22
abbrev F_laws_heldIntS : FuncId := 23
abbrev F_laws_szWaste : FuncId := 24
abbrev F_spec_NextOf : FuncId := 25
abbrev F_laws_toWaste : FuncId := 26
abbrev F_impl_NextOf : FuncId := 27
abbrev F_laws_eqWaste : FuncId := 28
abbrev F_laws_szThingS : FuncId := 29
abbrev F_spec_AllApart : FuncId := 30
abbrev F_laws_toThingS : FuncId := 31
abbrev F_impl_AllApart : FuncId := 32
abbrev F_laws_eqThingS : FuncId := 33
abbrev F_spec_ReadThing : FuncId := 34
abbrev F_laws_toByteS : FuncId := 35
abbrev F_impl_ReadThing : FuncId := 36
abbrev F_laws_eqByteS : FuncId := 37
abbrev F_laws_markByteS : FuncId := 38
abbrev F_laws_heldByteS : FuncId := 39
abbrev F_spec_WriteThing : FuncId := 40
abbrev F_impl_WriteThing : FuncId := 41
abbrev F_spec_OwnSteps : FuncId := 42
abbrev F_laws_toConf : FuncId := 43
abbrev F_impl_OwnSteps : FuncId := 44
abbrev F_spec_WasteOk : FuncId := 45
abbrev F_impl_WasteOk : FuncId := 46
abbrev F_laws_szNode : FuncId := 47
abbrev F_spec_ThingOf : FuncId := 48
abbrev F_laws_toNode : FuncId := 49
abbrev F_laws_toRef : FuncId := 50
abbrev F_impl_ThingOf : FuncId := 51
abbrev F_laws_eqThing : FuncId := 52
abbrev F_laws_eqNode : FuncId := 53
abbrev F_spec_Gone : FuncId := 54
abbrev F_impl_Gone : FuncId := 55
abbrev F_laws_markNode : FuncId := 56
abbrev F_laws_heldNode : FuncId := 57
abbrev F_spec_WasteOf : FuncId := 58
abbrev F_impl_WasteOf : FuncId := 59
abbrev F_laws_markWaste : FuncId := 60
abbrev F_laws_heldWaste : FuncId := 61
abbrev F_spec_Emptied : FuncId := 62
abbrev F_impl_Emptied : FuncId := 63
abbrev F_slices_Clone_int : FuncId := 64
abbrev F_slices_Reverse_int : FuncId := 65
abbrev F_laws_szIntS : FuncId := 66
abbrev F_slices_ContainsFunc_impl_Thing : FuncId := 67
abbrev F_impl_AllApart_1 : FuncId := 68
abbrev F_spec_l11In : FuncId := 69
abbrev F_spec_GetAt : FuncId := 70
abbrev F_impl_startOf : FuncId := 71
abbrev F_impl_GetAt : FuncId := 72
abbrev F_spec_PutAt : FuncId := 73
abbrev F_slices_Clone_byte : FuncId := 74
abbrev F_impl_PutAt : FuncId := 75
abbrev F_spec_SlicesOf : FuncId := 76
abbrev F_impl_SlicesOf : FuncId := 77
abbrev F_spec_ConfOk : FuncId := 78
abbrev F_spec_l1In : FuncId := 79
abbrev F_spec_l7Has : FuncId := 80
abbrev F_impl_ConfOk : FuncId := 81
abbrev F_impl_within : FuncId := 82
abbrev F_impl_areBytes : FuncId := 83
abbrev F_impl_distinct : FuncId := 84
abbrev F_laws_toHandle : FuncId := 85
abbrev F_laws_markThingS : FuncId := 86
abbrev F_laws_heldThingS : FuncId := 87
abbrev F_spec_l7Copy : FuncId := 88
abbrev F_slices_IndexFunc_impl_Thing : FuncId := 89
abbrev F_spec_l2There : FuncId := 90
abbrev F_impl_has : FuncId := 91
abbrev F_spec_CeilDiv : FuncId := 92
abbrev F_impl_CeilDiv : FuncId := 93
abbrev F_slices_ContainsFunc_int : FuncId := 94
abbrev F_impl_areBytes_1 : FuncId := 95
abbrev F_slices_Contains_int : FuncId := 96
abbrev F_slices_IndexFunc_int : FuncId := 97
abbrev F_slices_Index_int : FuncId := 98
abbrev F_runtime_boundsError_Error : FuncId := 99
abbrev F_runtime_boundsError_RuntimeError : FuncId := 100
abbrev F_runtime_errorString_Error : FuncId := 101
abbrev F_runtime_errorString_RuntimeError : FuncId := 102
abbrev F_runtime_plainError_Error : FuncId := 103
abbrev F_runtime_plainError_RuntimeError : FuncId := 104
abbrev F_runtime_errorAddressString_Error : FuncId := 105
abbrev F_runtime_errorAddressString_RuntimeError : FuncId := 106
abbrev F_runtime_TypeAssertionError_Error : FuncId := 107
abbrev F_runtime_TypeAssertionError_RuntimeError : FuncId := 108
abbrev F_runtime_PanicNilError_Error : FuncId := 109
abbrev F_runtime_PanicNilError_RuntimeError : FuncId := 110
abbrev F_internal_abi_Type_Align : FuncId := 111
abbrev F_internal_runtime_maps_unhashableTypeError_Error : FuncId := 112
abbrev F_internal_runtime_maps_unhashableTypeError_RuntimeError : FuncId := 113
abbrev F_internal_abi_Kind_String : FuncId := 114
def g_laws_toIntS : Cfg := { tb := tb, sg := sg, ann := fun | 3 => ([3, 4], [0]) | _ => ([], []), pin := [], mv := [], io := io, dy := dy, wr := fun _ => [] }
def vc_laws_toIntS (a : List DV) (Q : SV → List SV → Prop) : Prop :=
  nI (DV.sl 1 a).n = nI (DV.sl 1 a).n ∧ 0 ≤ nI (DV.sl 1 a).n ∧ nI 8 * nI (DV.sl 1 a).n ≤ 281474976710656 ∧ nI (DV.sl 1 a).n ≤ 9223372036854775807 ∧ 0 < 1 ∧ ∃ (I : List DV → Int → Nat → Prop), (∃ (n : Nat), I (List.replicate (nI (DV.sl 1 a).n).toNat (iV 0)) 0 n) ∧ ∀ (es : List DV) (n : Int) (n_1 : Nat), I es n n_1 → (decide (n < nI (DV.sl 1 a).n) = true → 0 ≤ n ∧ n < nI (DV.sl 1 a).n ∧ 1 ≤ (List.drop (n.toNat * 1) a).length ∧ DV.isI IntKind.i64 (hdD (List.drop (n.toNat * 1) a)) ∧ 0 ≤ n ∧ n < nI (DV.sl 1 es).n ∧ True ∧ n.toNat * 1 + 1 ≤ (DV.sl 1 es).es.length ∧ oneC (CV.rd (DV.sl 1 a)) = oneC
  (CV.rd (DV.sl 1 a)) ∧ ∃ (m : Nat), m < n_1 ∧ I (es.set (n.toNat * 1) (iV (hdD (List.drop (n.toNat * 1) a)).asI)) (IntKind.i64.wrap (n + 1)) m) ∧ (decide (n < nI (DV.sl 1 a).n) = false → Q (oneC (CV.own (DV.sl 1 es))) [SV.dead])
theorem v_laws_toIntS (a : List DV) (Q : SV → List SV → Prop) : dwp Try.prog g_laws_toIntS (bodyOf Try.f19) (retK g_laws_toIntS Try.f19.results.toList 1 Q) ([.one (.cell (.rd (.sl 1 a)))] ++ List.replicate (Try.f19.ntmps - 1) .und) = vc_laws_toIntS a Q := by kernel_rfl
theorem k_laws_toIntS {a : List DV} {Q : SV → List SV → Prop} (h : vc_laws_toIntS a Q) : CallD Try.prog F_laws_toIntS [.one (.cell (.rd (.sl 1 a)))] Q :=
  callD_of_dwp (C := g_laws_toIntS) tbOk mixed (by kernel_rfl : Try.prog.funcs[19]? = some Try.f19) (code := bodyOf Try.f19) (by kernel_rfl) (by kernel_rfl) (fun t ht => by cases ht) ((v_laws_toIntS a Q).mpr h)
def g_laws_eqIntS : Cfg := { tb := tb, sg := sg, ann := fun | 4 => ([5], [0, 1]) | _ => ([], []), pin := [], mv := [], io := io, dy := dy, wr := fun _ => [] }
def vc_laws_eqIntS (a : List DV) (b : List DV) (Q : SV → List SV → Prop) : Prop :=
  ((!decide (nI (DV.sl 1 a).n = nI (DV.sl 1 b).n)) = true → Q (oneC (bC false)) [SV.dead, SV.dead]) ∧ ((!decide (nI (DV.sl 1 a).n = nI (DV.sl 1 b).n)) = false → ∃ (I : Int → Nat → Prop), (∃ (n : Nat), I 0 n) ∧ ∀ (n : Int) (n_1 : Nat), I n n_1 → (decide (n < nI (DV.sl 1 a).n) = true → 0 ≤ n ∧ n < nI (DV.sl 1 a).n ∧ 1 ≤ (List.drop (n.toNat * 1) a).length ∧ DV.isI IntKind.i64 (hdD (List.drop (n.toNat * 1) a)) ∧ 0 ≤ n ∧ n < nI (DV.sl 1 b).n ∧ 1 ≤ (List.drop (n.toNat * 1) b).length ∧ DV.isI IntKind.i64 (hdD (List.drop (n.toNat * 1) b)) ∧ ((!decide ((hdD (List.drop (n.toNat * 1) a)).asI = (hdD
  (List.drop (n.toNat * 1) b)).asI)) = true → Q (oneC (bC false)) [SV.dead, SV.dead]) ∧ ((!decide ((hdD (List.drop (n.toNat * 1) a)).asI = (hdD (List.drop (n.toNat * 1) b)).asI)) = false → (oneC (CV.rd (DV.sl 1 a)) = oneC (CV.rd (DV.sl 1 a)) ∧ oneC (CV.rd (DV.sl 1 b)) = oneC (CV.rd (DV.sl 1 b))) ∧ ∃ (m : Nat), m < n_1 ∧ I (IntKind.i64.wrap (n + 1)) m)) ∧ (decide (n < nI (DV.sl 1 a).n) = false → Q (oneC (bC true)) [SV.dead, SV.dead]))
theorem v_laws_eqIntS (a : List DV) (b : List DV) (Q : SV → List SV → Prop) : dwp Try.prog g_laws_eqIntS (bodyOf Try.f21) (retK g_laws_eqIntS Try.f21.results.toList 2 Q) ([.one (.cell (.rd (.sl 1 a))), .one (.cell (.rd (.sl 1 b)))] ++ List.replicate (Try.f21.ntmps - 2) .und) = vc_laws_eqIntS a b Q := by kernel_rfl
theorem k_laws_eqIntS {a : List DV} {b : List DV} {Q : SV → List SV → Prop} (h : vc_laws_eqIntS a b Q) : CallD Try.prog F_laws_eqIntS [.one (.cell (.rd (.sl 1 a))), .one (.cell (.rd (.sl 1 b)))] Q :=
  callD_of_dwp (C := g_laws_eqIntS) tbOk mixed (by kernel_rfl : Try.prog.funcs[21]? = some Try.f21) (code := bodyOf Try.f21) (by kernel_rfl) (by kernel_rfl) (fun t ht => by cases ht) ((v_laws_eqIntS a b Q).mpr h)
def g_laws_szIntS : Cfg := { tb := tb, sg := sg, ann := fun _ => ([], []), pin := [], mv := [], io := io, dy := dy, wr := fun _ => [] }
def vc_laws_szIntS (a : List DV) (b : Int) (Q : SV → List SV → Prop) : Prop :=
  (decide (IntKind.i64.wrap (b - nI (DV.sl 1 a).n) < 0) = true → Q (oneC (iC (-1))) [SV.dead, SV.dead]) ∧ (decide (IntKind.i64.wrap (b - nI (DV.sl 1 a).n) < 0) = false → Q (oneC (iC (IntKind.i64.wrap (b - nI (DV.sl 1 a).n)))) [SV.dead, SV.dead])
theorem v_laws_szIntS (a : List DV) (b : Int) (Q : SV → List SV → Prop) : dwp Try.prog g_laws_szIntS (bodyOf Try.f66) (retK g_laws_szIntS Try.f66.results.toList 2 Q) ([.one (.cell (.rd (.sl 1 a))), .one (.cell (.sc (.int .i64 b)))] ++ List.replicate (Try.f66.ntmps - 2) .und) = vc_laws_szIntS a b Q := by kernel_rfl
theorem k_laws_szIntS {a : List DV} {b : Int} {Q : SV → List SV → Prop} (h : vc_laws_szIntS a b Q) : CallD Try.prog F_laws_szIntS [.one (.cell (.rd (.sl 1 a))), .one (.cell (.sc (.int .i64 b)))] Q :=
  callD_of_dwp (C := g_laws_szIntS) tbOk mixed (by kernel_rfl : Try.prog.funcs[66]? = some Try.f66) (code := bodyOf Try.f66) (by kernel_rfl) (by kernel_rfl) (fun t ht => by cases ht) ((v_laws_szIntS a b Q).mpr h)
def g_laws_toWaste : Cfg := { tb := tb, sg := sg, ann := fun _ => ([], []), pin := [], mv := [21], io := io, dy := dy, wr := fun _ => [] }
def vc_laws_toWaste (a0 : Int) (a1 : Int) (a2 : List DV) (a3 : List DV) (a4 : Int) (Q : SV → List SV → Prop) : Prop :=
  ∃ (es : List DV), (CallD Try.prog F_laws_toIntS [oneC (CV.rd (DV.sl 1 a2))] fun r _ => r = oneC (CV.own (DV.sl 1 es))) ∧ ∃ (es_1 : List DV), (CallD Try.prog F_laws_toIntS [oneC (CV.rd (DV.sl 1 a3))] fun r _ => r = oneC (CV.own (DV.sl 1 es_1))) ∧ Q (aS [iC a0, iC a1, CV.own (DV.sl 1 es), CV.own (DV.sl 1 es_1), iC a4]) [SV.dead]
theorem v_laws_toWaste (a0 : Int) (a1 : Int) (a2 : List DV) (a3 : List DV) (a4 : Int) (Q : SV → List SV → Prop) : dwp Try.prog g_laws_toWaste (bodyOf Try.f26) (retK g_laws_toWaste Try.f26.results.toList 1 Q) ([.one (.agg [.sc (.int .i64 a0), .sc (.int .i64 a1), .rd (.sl 1 a2), .rd (.sl 1 a3), .sc (.int .i64 a4)])] ++ List.replicate (Try.f26.ntmps - 1) .und) = vc_laws_toWaste a0 a1 a2 a3 a4 Q := by kernel_rfl
theorem k_laws_toWaste {a0 : Int} {a1 : Int} {a2 : List DV} {a3 : List DV} {a4 : Int} {Q : SV → List SV → Prop} (h : vc_laws_toWaste a0 a1 a2 a3 a4 Q) : CallD Try.prog F_laws_toWaste [.one (.agg [.sc (.int .i64 a0), .sc (.int .i64 a1), .rd (.sl 1 a2), .rd (.sl 1 a3), .sc (.int .i64 a4)])] Q :=
  callD_of_dwp (C := g_laws_toWaste) tbOk mixed (by kernel_rfl : Try.prog.funcs[26]? = some Try.f26) (code := bodyOf Try.f26) (by kernel_rfl) (by kernel_rfl) (fun t ht => by cases ht) ((v_laws_toWaste a0 a1 a2 a3 a4 Q).mpr h)
def g_laws_eqWaste : Cfg := { tb := tb, sg := sg, ann := fun _ => ([], []), pin := [], mv := [], io := io, dy := dy, wr := fun _ => [] }
def vc_laws_eqWaste (a0 : Int) (a1 : Int) (a2 : List DV) (a3 : List DV) (a4 : Int) (b0 : Int) (b1 : Int) (b2 : List DV) (b3 : List DV) (b4 : Int) (Q : SV → List SV → Prop) : Prop :=
  ((!decide (a0 = b0)) = true → Q (oneC (bC false)) [SV.dead, SV.dead]) ∧ ((!decide (a0 = b0)) = false → ((!decide (a1 = b1)) = true → Q (oneC (bC false)) [SV.dead, SV.dead]) ∧ ((!decide (a1 = b1)) = false → ∃ (b : Bool), (CallD Try.prog F_laws_eqIntS [oneC (CV.rd (DV.sl 1 a2)), oneC (CV.rd (DV.sl 1 b2))] fun r _ => r = oneC (bC b)) ∧ (b = true → ∃ (b : Bool), (CallD Try.prog F_laws_eqIntS [oneC (CV.rd (DV.sl 1 a3)), oneC (CV.rd (DV.sl 1 b3))] fun r _ => r = oneC (bC b)) ∧ (b = true → ((!decide (a4 = b4)) = true → Q (oneC (bC false)) [SV.dead, SV.dead]) ∧ ((!decide (a4 = b4)) = false → Q (oneC
  (bC true)) [SV.dead, SV.dead])) ∧ (b = false → Q (oneC (bC false)) [SV.dead, SV.dead])) ∧ (b = false → Q (oneC (bC false)) [SV.dead, SV.dead])))
theorem v_laws_eqWaste (a0 : Int) (a1 : Int) (a2 : List DV) (a3 : List DV) (a4 : Int) (b0 : Int) (b1 : Int) (b2 : List DV) (b3 : List DV) (b4 : Int) (Q : SV → List SV → Prop) : dwp Try.prog g_laws_eqWaste (bodyOf Try.f28) (retK g_laws_eqWaste Try.f28.results.toList 2 Q) ([.one (.agg [.sc (.int .i64 a0), .sc (.int .i64 a1), .rd (.sl 1 a2), .rd (.sl 1 a3), .sc (.int .i64 a4)]), .one (.agg [.sc (.int .i64 b0), .sc (.int .i64 b1), .rd (.sl 1 b2), .rd (.sl 1 b3), .sc (.int .i64 b4)])] ++ List.replicate (Try.f28.ntmps - 2) .und) = vc_laws_eqWaste a0 a1 a2 a3 a4 b0 b1 b2 b3 b4 Q := by kernel_rfl
theorem k_laws_eqWaste {a0 : Int} {a1 : Int} {a2 : List DV} {a3 : List DV} {a4 : Int} {b0 : Int} {b1 : Int} {b2 : List DV} {b3 : List DV} {b4 : Int} {Q : SV → List SV → Prop} (h : vc_laws_eqWaste a0 a1 a2 a3 a4 b0 b1 b2 b3 b4 Q) : CallD Try.prog F_laws_eqWaste [.one (.agg [.sc (.int .i64 a0), .sc (.int .i64 a1), .rd (.sl 1 a2), .rd (.sl 1 a3), .sc (.int .i64 a4)]), .one (.agg [.sc (.int .i64 b0), .sc (.int .i64 b1), .rd (.sl 1 b2), .rd (.sl 1 b3), .sc (.int .i64 b4)])] Q :=
  callD_of_dwp (C := g_laws_eqWaste) tbOk mixed (by kernel_rfl : Try.prog.funcs[28]? = some Try.f28) (code := bodyOf Try.f28) (by kernel_rfl) (by kernel_rfl) (fun t ht => by cases ht) ((v_laws_eqWaste a0 a1 a2 a3 a4 b0 b1 b2 b3 b4 Q).mpr h)
def g_laws_szWaste : Cfg := { tb := tb, sg := sg, ann := fun _ => ([], []), pin := [], mv := [], io := io, dy := dy, wr := fun _ => [] }
def vc_laws_szWaste (_a0 : Int) (_a1 : Int) (a2 : List DV) (a3 : List DV) (_a4 : Int) (b : Int) (Q : SV → List SV → Prop) : Prop :=
  ∃ (n : Int), (CallD Try.prog F_laws_szIntS [oneC (CV.rd (DV.sl 1 a2)), oneC (iC b)] fun r _ => r = oneC (iC n)) ∧ (decide (n < 0) = true → Q (oneC (iC (-1))) [SV.dead, SV.dead]) ∧ (decide (n < 0) = false → ∃ (n_1 : Int), (CallD Try.prog F_laws_szIntS [oneC (CV.rd (DV.sl 1 a3)), oneC (iC n)] fun r _ => r = oneC (iC n_1)) ∧ (decide (n_1 < 0) = true → Q (oneC (iC (-1))) [SV.dead, SV.dead]) ∧ (decide (n_1 < 0) = false → Q (oneC (iC n_1)) [SV.dead, SV.dead]))
theorem v_laws_szWaste (a0 : Int) (a1 : Int) (a2 : List DV) (a3 : List DV) (a4 : Int) (b : Int) (Q : SV → List SV → Prop) : dwp Try.prog g_laws_szWaste (bodyOf Try.f24) (retK g_laws_szWaste Try.f24.results.toList 2 Q) ([.one (.agg [.sc (.int .i64 a0), .sc (.int .i64 a1), .rd (.sl 1 a2), .rd (.sl 1 a3), .sc (.int .i64 a4)]), .one (.cell (.sc (.int .i64 b)))] ++ List.replicate (Try.f24.ntmps - 2) .und) = vc_laws_szWaste a0 a1 a2 a3 a4 b Q := by kernel_rfl
theorem k_laws_szWaste {a0 : Int} {a1 : Int} {a2 : List DV} {a3 : List DV} {a4 : Int} {b : Int} {Q : SV → List SV → Prop} (h : vc_laws_szWaste a0 a1 a2 a3 a4 b Q) : CallD Try.prog F_laws_szWaste [.one (.agg [.sc (.int .i64 a0), .sc (.int .i64 a1), .rd (.sl 1 a2), .rd (.sl 1 a3), .sc (.int .i64 a4)]), .one (.cell (.sc (.int .i64 b)))] Q :=
  callD_of_dwp (C := g_laws_szWaste) tbOk mixed (by kernel_rfl : Try.prog.funcs[24]? = some Try.f24) (code := bodyOf Try.f24) (by kernel_rfl) (by kernel_rfl) (fun t ht => by cases ht) ((v_laws_szWaste a0 a1 a2 a3 a4 b Q).mpr h)
def g_spec_NextOf : Cfg := { tb := tb, sg := sg, ann := fun _ => ([], []), pin := [], mv := [], io := io, dy := dy, wr := fun _ => [] }
def vc_spec_NextOf (_a0 : Int) (a1 : Int) (a2 : List DV) (a3 : List DV) (_a4 : Int) (Q : SV → List SV → Prop) : Prop :=
  (decide (0 < nI (DV.sl 1 a2).n) = true → Q (oneC (iC 1)) [SV.dead]) ∧ (decide (0 < nI (DV.sl 1 a2).n) = false → (decide (0 < nI (DV.sl 1 a3).n) = true → Q (oneC (iC 2)) [SV.dead]) ∧ (decide (0 < nI (DV.sl 1 a3).n) = false → ((!decide (a1 = 0)) = true → Q (oneC (iC 3)) [SV.dead]) ∧ ((!decide (a1 = 0)) = false → Q (oneC (iC 4)) [SV.dead])))
theorem v_spec_NextOf (a0 : Int) (a1 : Int) (a2 : List DV) (a3 : List DV) (a4 : Int) (Q : SV → List SV → Prop) : dwp Try.prog g_spec_NextOf (bodyOf Try.f25) (retK g_spec_NextOf Try.f25.results.toList 1 Q) ([.one (.agg [.sc (.int .i64 a0), .sc (.int .i64 a1), .rd (.sl 1 a2), .rd (.sl 1 a3), .sc (.int .i64 a4)])] ++ List.replicate (Try.f25.ntmps - 1) .und) = vc_spec_NextOf a0 a1 a2 a3 a4 Q := by kernel_rfl
theorem k_spec_NextOf {a0 : Int} {a1 : Int} {a2 : List DV} {a3 : List DV} {a4 : Int} {Q : SV → List SV → Prop} (h : vc_spec_NextOf a0 a1 a2 a3 a4 Q) : CallD Try.prog F_spec_NextOf [.one (.agg [.sc (.int .i64 a0), .sc (.int .i64 a1), .rd (.sl 1 a2), .rd (.sl 1 a3), .sc (.int .i64 a4)])] Q :=
  callD_of_dwp (C := g_spec_NextOf) tbOk mixed (by kernel_rfl : Try.prog.funcs[25]? = some Try.f25) (code := bodyOf Try.f25) (by kernel_rfl) (by kernel_rfl) (fun t ht => by cases ht) ((v_spec_NextOf a0 a1 a2 a3 a4 Q).mpr h)
def g_impl_NextOf : Cfg := { tb := tb, sg := sg, ann := fun _ => ([], []), pin := [], mv := [], io := io, dy := dy, wr := fun _ => [] }
def vc_impl_NextOf (_a0 : Int) (a1 : Int) (a2 : List DV) (a3 : List DV) (_a4 : Int) (Q : SV → List SV → Prop) : Prop :=
  (decide (0 < nI (DV.sl 1 a2).n) = true → Q (oneC (iC 1)) [SV.dead]) ∧ (decide (0 < nI (DV.sl 1 a2).n) = false → (decide (0 < nI (DV.sl 1 a3).n) = true → Q (oneC (iC 2)) [SV.dead]) ∧ (decide (0 < nI (DV.sl 1 a3).n) = false → ((!decide (a1 = 0)) = true → Q (oneC (iC 3)) [SV.dead]) ∧ ((!decide (a1 = 0)) = false → Q (oneC (iC 4)) [SV.dead])))
theorem v_impl_NextOf (a0 : Int) (a1 : Int) (a2 : List DV) (a3 : List DV) (a4 : Int) (Q : SV → List SV → Prop) : dwp Try.prog g_impl_NextOf (bodyOf Try.f27) (retK g_impl_NextOf Try.f27.results.toList 1 Q) ([.one (.agg [.sc (.int .i64 a0), .sc (.int .i64 a1), .rd (.sl 1 a2), .rd (.sl 1 a3), .sc (.int .i64 a4)])] ++ List.replicate (Try.f27.ntmps - 1) .und) = vc_impl_NextOf a0 a1 a2 a3 a4 Q := by kernel_rfl
theorem k_impl_NextOf {a0 : Int} {a1 : Int} {a2 : List DV} {a3 : List DV} {a4 : Int} {Q : SV → List SV → Prop} (h : vc_impl_NextOf a0 a1 a2 a3 a4 Q) : CallD Try.prog F_impl_NextOf [.one (.agg [.sc (.int .i64 a0), .sc (.int .i64 a1), .rd (.sl 1 a2), .rd (.sl 1 a3), .sc (.int .i64 a4)])] Q :=
  callD_of_dwp (C := g_impl_NextOf) tbOk mixed (by kernel_rfl : Try.prog.funcs[27]? = some Try.f27) (code := bodyOf Try.f27) (by kernel_rfl) (by kernel_rfl) (fun t ht => by cases ht) ((v_impl_NextOf a0 a1 a2 a3 a4 Q).mpr h)
def g_laws_FnExactNextOf : Cfg := { tb := tb, sg := sg, ann := fun _ => ([], []), pin := [], mv := [], io := io, dy := dy, wr := fun _ => [] }
def vc_laws_FnExactNextOf (a0 : Int) (a1 : Int) (a2 : List DV) (a3 : List DV) (a4 : Int) (Q : SV → List SV → Prop) : Prop :=
  ∃ (n : Int), (CallD Try.prog F_laws_szWaste [aS [iC a0, iC a1, CV.rd (DV.sl 1 a2), CV.rd (DV.sl 1 a3), iC a4], oneC (iC 1048576)] fun r _ => r = oneC (iC n)) ∧ (decide (n < 0) = true → Q (oneC (bC true)) [SV.dead]) ∧ (decide (n < 0) = false → ∃ (n : Int), ∃ (n_1 : Int), ∃ (es : List DV), ∃ (es_1 : List DV), ∃ (n_2 : Int), (CallD Try.prog F_laws_toWaste [aS [iC a0, iC a1, CV.rd (DV.sl 1 a2), CV.rd (DV.sl 1 a3), iC a4]] fun r _ => r = aS [iC n, iC n_1, CV.own (DV.sl 1 es), CV.own (DV.sl 1 es_1), iC n_2]) ∧ ∃ (n_3 : Int), (CallD Try.prog F_spec_NextOf [aS [iC n, iC n_1, CV.rd (DV.sl 1 es), CV.rd
  (DV.sl 1 es_1), iC n_2]] fun r _ => r = oneC (iC n_3)) ∧ ∃ (n : Int), ∃ (n_4 : Int), ∃ (es : List DV), ∃ (es_2 : List DV), ∃ (n_5 : Int), (CallD Try.prog F_laws_toWaste [aS [iC a0, iC a1, CV.rd (DV.sl 1 a2), CV.rd (DV.sl 1 a3), iC a4]] fun r _ => r = aS [iC n, iC n_4, CV.own (DV.sl 1 es), CV.own (DV.sl 1 es_2), iC n_5]) ∧ ∃ (n_6 : Int), (CallD Try.prog F_impl_NextOf [aS [iC n, iC n_4, CV.rd (DV.sl 1 es), CV.rd (DV.sl 1 es_2), iC n_5]] fun r _ => r = oneC (iC n_6)) ∧ ((!decide (n_6 = n_3)) = true → Q (oneC (bC false)) [SV.dead]) ∧ ((!decide (n_6 = n_3)) = false → ∃ (n_7 : Int), ∃ (n_8 : Int), ∃
  (es_3 : List DV), ∃ (es_4 : List DV), ∃ (n_9 : Int), (CallD Try.prog F_laws_toWaste [aS [iC a0, iC a1, CV.rd (DV.sl 1 a2), CV.rd (DV.sl 1 a3), iC a4]] fun r _ => r = aS [iC n_7, iC n_8, CV.own (DV.sl 1 es_3), CV.own (DV.sl 1 es_4), iC n_9]) ∧ ∃ (b : Bool), (CallD Try.prog F_laws_eqWaste [aS [iC n, iC n_4, CV.rd (DV.sl 1 es), CV.rd (DV.sl 1 es_2), iC n_5], aS [iC n_7, iC n_8, CV.rd (DV.sl 1 es_3), CV.rd (DV.sl 1 es_4), iC n_9]] fun r _ => r = oneC (bC b)) ∧ (b = true → Q (oneC (bC true)) [SV.dead]) ∧ (b = false → Q (oneC (bC false)) [SV.dead])))
theorem v_laws_FnExactNextOf (a0 : Int) (a1 : Int) (a2 : List DV) (a3 : List DV) (a4 : Int) (Q : SV → List SV → Prop) : dwp Try.prog g_laws_FnExactNextOf (bodyOf Try.f5) (retK g_laws_FnExactNextOf Try.f5.results.toList 1 Q) ([.one (.agg [.sc (.int .i64 a0), .sc (.int .i64 a1), .rd (.sl 1 a2), .rd (.sl 1 a3), .sc (.int .i64 a4)])] ++ List.replicate (Try.f5.ntmps - 1) .und) = vc_laws_FnExactNextOf a0 a1 a2 a3 a4 Q := by kernel_rfl
theorem k_laws_FnExactNextOf {a0 : Int} {a1 : Int} {a2 : List DV} {a3 : List DV} {a4 : Int} {Q : SV → List SV → Prop} (h : vc_laws_FnExactNextOf a0 a1 a2 a3 a4 Q) : CallD Try.prog F_laws_FnExactNextOf [.one (.agg [.sc (.int .i64 a0), .sc (.int .i64 a1), .rd (.sl 1 a2), .rd (.sl 1 a3), .sc (.int .i64 a4)])] Q :=
  callD_of_dwp (C := g_laws_FnExactNextOf) tbOk mixed (by kernel_rfl : Try.prog.funcs[5]? = some Try.f5) (code := bodyOf Try.f5) (by kernel_rfl) (by kernel_rfl) (fun t ht => by cases ht) ((v_laws_FnExactNextOf a0 a1 a2 a3 a4 Q).mpr h)
def g_laws_toConf : Cfg := { tb := tb, sg := sg, ann := fun _ => ([], []), pin := [], mv := [], io := io, dy := dy, wr := fun _ => [] }
def vc_laws_toConf (a0 : Int) (a1 : Int) (a2 : Int) (a3 : Int) (a4 : Int) (a5 : Int) (Q : SV → List SV → Prop) : Prop :=
  Q (aS [iC a0, iC a1, iC a2, iC a3, iC a4, iC a5]) [SV.dead]
theorem v_laws_toConf (a0 : Int) (a1 : Int) (a2 : Int) (a3 : Int) (a4 : Int) (a5 : Int) (Q : SV → List SV → Prop) : dwp Try.prog g_laws_toConf (bodyOf Try.f43) (retK g_laws_toConf Try.f43.results.toList 1 Q) ([.one (.agg [.sc (.int .i64 a0), .sc (.int .i64 a1), .sc (.int .i64 a2), .sc (.int .i64 a3), .sc (.int .i64 a4), .sc (.int .i64 a5)])] ++ List.replicate (Try.f43.ntmps - 1) .und) = vc_laws_toConf a0 a1 a2 a3 a4 a5 Q := by kernel_rfl
theorem k_laws_toConf {a0 : Int} {a1 : Int} {a2 : Int} {a3 : Int} {a4 : Int} {a5 : Int} {Q : SV → List SV → Prop} (h : vc_laws_toConf a0 a1 a2 a3 a4 a5 Q) : CallD Try.prog F_laws_toConf [.one (.agg [.sc (.int .i64 a0), .sc (.int .i64 a1), .sc (.int .i64 a2), .sc (.int .i64 a3), .sc (.int .i64 a4), .sc (.int .i64 a5)])] Q :=
  callD_of_dwp (C := g_laws_toConf) tbOk mixed (by kernel_rfl : Try.prog.funcs[43]? = some Try.f43) (code := bodyOf Try.f43) (by kernel_rfl) (by kernel_rfl) (fun t ht => by cases ht) ((v_laws_toConf a0 a1 a2 a3 a4 a5 Q).mpr h)
def g_spec_CeilDiv : Cfg := { tb := tb, sg := sg, ann := fun _ => ([], []), pin := [], mv := [], io := io, dy := dy, wr := fun _ => [] }
def vc_spec_CeilDiv (a : Int) (b : Int) (Q : SV → List SV → Prop) : Prop :=
  ∃ (b_1 : Bool), (CallD Try.prog F_spec_l1In [oneC (iC a), oneC (iC 0), oneC (iC 1000000000)] fun r _ => r = oneC (bC b_1)) ∧ (b_1 = true → ∃ (b_2 : Bool), (CallD Try.prog F_spec_l1In [oneC (iC b), oneC (iC 1), oneC (iC 1000000000)] fun r _ => r = oneC (bC b_2)) ∧ (b_2 = true → b ≠ 0 ∧ Q (oneC (iC (IntKind.i64.wrap ((IntKind.i64.wrap (IntKind.i64.wrap (a + b) - 1)).tdiv b)))) [SV.dead, SV.dead]) ∧ (b_2 = false → Q (oneC (iC 0)) [SV.dead, SV.dead])) ∧ (b_1 = false → Q (oneC (iC 0)) [SV.dead, SV.dead])
theorem v_spec_CeilDiv (a : Int) (b : Int) (Q : SV → List SV → Prop) : dwp Try.prog g_spec_CeilDiv (bodyOf Try.f92) (retK g_spec_CeilDiv Try.f92.results.toList 2 Q) ([.one (.cell (.sc (.int .i64 a))), .one (.cell (.sc (.int .i64 b)))] ++ List.replicate (Try.f92.ntmps - 2) .und) = vc_spec_CeilDiv a b Q := by kernel_rfl
theorem k_spec_CeilDiv {a : Int} {b : Int} {Q : SV → List SV → Prop} (h : vc_spec_CeilDiv a b Q) : CallD Try.prog F_spec_CeilDiv [.one (.cell (.sc (.int .i64 a))), .one (.cell (.sc (.int .i64 b)))] Q :=
  callD_of_dwp (C := g_spec_CeilDiv) tbOk mixed (by kernel_rfl : Try.prog.funcs[92]? = some Try.f92) (code := bodyOf Try.f92) (by kernel_rfl) (by kernel_rfl) (fun t ht => by cases ht) ((v_spec_CeilDiv a b Q).mpr h)
def g_impl_CeilDiv : Cfg := { tb := tb, sg := sg, ann := fun _ => ([], []), pin := [], mv := [], io := io, dy := dy, wr := fun _ => [] }
def vc_impl_CeilDiv (a : Int) (b : Int) (Q : SV → List SV → Prop) : Prop :=
  ∃ (b_1 : Bool), (CallD Try.prog F_impl_within [oneC (iC a), oneC (iC 0), oneC (iC 1000000000)] fun r _ => r = oneC (bC b_1)) ∧ (b_1 = true → ∃ (b_2 : Bool), (CallD Try.prog F_impl_within [oneC (iC b), oneC (iC 1), oneC (iC 1000000000)] fun r _ => r = oneC (bC b_2)) ∧ (b_2 = true → b ≠ 0 ∧ Q (oneC (iC (IntKind.i64.wrap ((IntKind.i64.wrap (IntKind.i64.wrap (a + b) - 1)).tdiv b)))) [SV.dead, SV.dead]) ∧ (b_2 = false → Q (oneC (iC 0)) [SV.dead, SV.dead])) ∧ (b_1 = false → Q (oneC (iC 0)) [SV.dead, SV.dead])
theorem v_impl_CeilDiv (a : Int) (b : Int) (Q : SV → List SV → Prop) : dwp Try.prog g_impl_CeilDiv (bodyOf Try.f93) (retK g_impl_CeilDiv Try.f93.results.toList 2 Q) ([.one (.cell (.sc (.int .i64 a))), .one (.cell (.sc (.int .i64 b)))] ++ List.replicate (Try.f93.ntmps - 2) .und) = vc_impl_CeilDiv a b Q := by kernel_rfl
theorem k_impl_CeilDiv {a : Int} {b : Int} {Q : SV → List SV → Prop} (h : vc_impl_CeilDiv a b Q) : CallD Try.prog F_impl_CeilDiv [.one (.cell (.sc (.int .i64 a))), .one (.cell (.sc (.int .i64 b)))] Q :=
  callD_of_dwp (C := g_impl_CeilDiv) tbOk mixed (by kernel_rfl : Try.prog.funcs[93]? = some Try.f93) (code := bodyOf Try.f93) (by kernel_rfl) (by kernel_rfl) (fun t ht => by cases ht) ((v_impl_CeilDiv a b Q).mpr h)
def g_impl_within : Cfg := { tb := tb, sg := sg, ann := fun _ => ([], []), pin := [], mv := [], io := io, dy := dy, wr := fun _ => [] }
def vc_impl_within (a : Int) (b : Int) (c : Int) (Q : SV → List SV → Prop) : Prop :=
  (decide (b ≤ a) = true → (decide (a ≤ c) = true → Q (oneC (bC true)) [SV.dead, SV.dead, SV.dead]) ∧ (decide (a ≤ c) = false → Q (oneC (bC false)) [SV.dead, SV.dead, SV.dead])) ∧ (decide (b ≤ a) = false → Q (oneC (bC false)) [SV.dead, SV.dead, SV.dead])
theorem v_impl_within (a : Int) (b : Int) (c : Int) (Q : SV → List SV → Prop) : dwp Try.prog g_impl_within (bodyOf Try.f82) (retK g_impl_within Try.f82.results.toList 3 Q) ([.one (.cell (.sc (.int .i64 a))), .one (.cell (.sc (.int .i64 b))), .one (.cell (.sc (.int .i64 c)))] ++ List.replicate (Try.f82.ntmps - 3) .und) = vc_impl_within a b c Q := by kernel_rfl
theorem k_impl_within {a : Int} {b : Int} {c : Int} {Q : SV → List SV → Prop} (h : vc_impl_within a b c Q) : CallD Try.prog F_impl_within [.one (.cell (.sc (.int .i64 a))), .one (.cell (.sc (.int .i64 b))), .one (.cell (.sc (.int .i64 c)))] Q :=
  callD_of_dwp (C := g_impl_within) tbOk mixed (by kernel_rfl : Try.prog.funcs[82]? = some Try.f82) (code := bodyOf Try.f82) (by kernel_rfl) (by kernel_rfl) (fun t ht => by cases ht) ((v_impl_within a b c Q).mpr h)
def g_spec_l1In : Cfg := { tb := tb, sg := sg, ann := fun _ => ([], []), pin := [], mv := [], io := io, dy := dy, wr := fun _ => [] }
def vc_spec_l1In (a : Int) (b : Int) (c : Int) (Q : SV → List SV → Prop) : Prop :=
  (decide (b ≤ a) = true → (decide (a ≤ c) = true → Q (oneC (bC true)) [SV.dead, SV.dead, SV.dead]) ∧ (decide (a ≤ c) = false → Q (oneC (bC false)) [SV.dead, SV.dead, SV.dead])) ∧ (decide (b ≤ a) = false → Q (oneC (bC false)) [SV.dead, SV.dead, SV.dead])
theorem v_spec_l1In (a : Int) (b : Int) (c : Int) (Q : SV → List SV → Prop) : dwp Try.prog g_spec_l1In (bodyOf Try.f79) (retK g_spec_l1In Try.f79.results.toList 3 Q) ([.one (.cell (.sc (.int .i64 a))), .one (.cell (.sc (.int .i64 b))), .one (.cell (.sc (.int .i64 c)))] ++ List.replicate (Try.f79.ntmps - 3) .und) = vc_spec_l1In a b c Q := by kernel_rfl
theorem k_spec_l1In {a : Int} {b : Int} {c : Int} {Q : SV → List SV → Prop} (h : vc_spec_l1In a b c Q) : CallD Try.prog F_spec_l1In [.one (.cell (.sc (.int .i64 a))), .one (.cell (.sc (.int .i64 b))), .one (.cell (.sc (.int .i64 c)))] Q :=
  callD_of_dwp (C := g_spec_l1In) tbOk mixed (by kernel_rfl : Try.prog.funcs[79]? = some Try.f79) (code := bodyOf Try.f79) (by kernel_rfl) (by kernel_rfl) (fun t ht => by cases ht) ((v_spec_l1In a b c Q).mpr h)
def g_spec_SlicesOf : Cfg := { tb := tb, sg := sg, ann := fun _ => ([], []), pin := [], mv := [], io := io, dy := dy, wr := fun _ => [] }
def vc_spec_SlicesOf (_a0 : Int) (_a1 : Int) (_a2 : Int) (_a3 : Int) (a4 : Int) (_a5 : Int) (b : Int) (Q : SV → List SV → Prop) : Prop :=
  ∃ (n : Int), (CallD Try.prog F_spec_CeilDiv [oneC (iC b), oneC (iC a4)] fun r _ => r = oneC (iC n)) ∧ Q (oneC (iC n)) [SV.dead, SV.dead]
theorem v_spec_SlicesOf (a0 : Int) (a1 : Int) (a2 : Int) (a3 : Int) (a4 : Int) (a5 : Int) (b : Int) (Q : SV → List SV → Prop) : dwp Try.prog g_spec_SlicesOf (bodyOf Try.f76) (retK g_spec_SlicesOf Try.f76.results.toList 2 Q) ([.one (.agg [.sc (.int .i64 a0), .sc (.int .i64 a1), .sc (.int .i64 a2), .sc (.int .i64 a3), .sc (.int .i64 a4), .sc (.int .i64 a5)]), .one (.cell (.sc (.int .i64 b)))] ++ List.replicate (Try.f76.ntmps - 2) .und) = vc_spec_SlicesOf a0 a1 a2 a3 a4 a5 b Q := by kernel_rfl
theorem k_spec_SlicesOf {a0 : Int} {a1 : Int} {a2 : Int} {a3 : Int} {a4 : Int} {a5 : Int} {b : Int} {Q : SV → List SV → Prop} (h : vc_spec_SlicesOf a0 a1 a2 a3 a4 a5 b Q) : CallD Try.prog F_spec_SlicesOf [.one (.agg [.sc (.int .i64 a0), .sc (.int .i64 a1), .sc (.int .i64 a2), .sc (.int .i64 a3), .sc (.int .i64 a4), .sc (.int .i64 a5)]), .one (.cell (.sc (.int .i64 b)))] Q :=
  callD_of_dwp (C := g_spec_SlicesOf) tbOk mixed (by kernel_rfl : Try.prog.funcs[76]? = some Try.f76) (code := bodyOf Try.f76) (by kernel_rfl) (by kernel_rfl) (fun t ht => by cases ht) ((v_spec_SlicesOf a0 a1 a2 a3 a4 a5 b Q).mpr h)
def g_impl_SlicesOf : Cfg := { tb := tb, sg := sg, ann := fun _ => ([], []), pin := [], mv := [], io := io, dy := dy, wr := fun _ => [] }
def vc_impl_SlicesOf (_a0 : Int) (_a1 : Int) (_a2 : Int) (_a3 : Int) (a4 : Int) (_a5 : Int) (b : Int) (Q : SV → List SV → Prop) : Prop :=
  ∃ (n : Int), (CallD Try.prog F_impl_CeilDiv [oneC (iC b), oneC (iC a4)] fun r _ => r = oneC (iC n)) ∧ Q (oneC (iC n)) [SV.dead, SV.dead]
theorem v_impl_SlicesOf (a0 : Int) (a1 : Int) (a2 : Int) (a3 : Int) (a4 : Int) (a5 : Int) (b : Int) (Q : SV → List SV → Prop) : dwp Try.prog g_impl_SlicesOf (bodyOf Try.f77) (retK g_impl_SlicesOf Try.f77.results.toList 2 Q) ([.one (.agg [.sc (.int .i64 a0), .sc (.int .i64 a1), .sc (.int .i64 a2), .sc (.int .i64 a3), .sc (.int .i64 a4), .sc (.int .i64 a5)]), .one (.cell (.sc (.int .i64 b)))] ++ List.replicate (Try.f77.ntmps - 2) .und) = vc_impl_SlicesOf a0 a1 a2 a3 a4 a5 b Q := by kernel_rfl
theorem k_impl_SlicesOf {a0 : Int} {a1 : Int} {a2 : Int} {a3 : Int} {a4 : Int} {a5 : Int} {b : Int} {Q : SV → List SV → Prop} (h : vc_impl_SlicesOf a0 a1 a2 a3 a4 a5 b Q) : CallD Try.prog F_impl_SlicesOf [.one (.agg [.sc (.int .i64 a0), .sc (.int .i64 a1), .sc (.int .i64 a2), .sc (.int .i64 a3), .sc (.int .i64 a4), .sc (.int .i64 a5)]), .one (.cell (.sc (.int .i64 b)))] Q :=
  callD_of_dwp (C := g_impl_SlicesOf) tbOk mixed (by kernel_rfl : Try.prog.funcs[77]? = some Try.f77) (code := bodyOf Try.f77) (by kernel_rfl) (by kernel_rfl) (fun t ht => by cases ht) ((v_impl_SlicesOf a0 a1 a2 a3 a4 a5 b Q).mpr h)
def g_spec_OwnSteps : Cfg := { tb := tb, sg := sg, ann := fun | 3 => ([5, 6], [2, 3]) | _ => ([], []), pin := [], mv := [], io := io, dy := dy, wr := fun _ => [] }
def vc_spec_OwnSteps (a0 : Int) (a1 : Int) (a2 : Int) (a3 : Int) (a4 : Int) (a5 : Int) (b0 : Int) (b1 : Int) (b2 : List DV) (b3 : List DV) (b4 : Int) (Q : SV → List SV → Prop) : Prop :=
  ∃ (I : Int → Int → Nat → Prop), (∃ (n : Nat), I (IntKind.i64.wrap (nI (DV.sl 1 b2).n + 1)) 0 n) ∧ ∀ (n n_1 : Int) (n_2 : Nat), I n n_1 n_2 → (decide (n_1 < nI (DV.sl 1 b3).n) = true → (decide (n_1 = 0) = true → ∃ (n_3 : Int), (CallD Try.prog F_spec_SlicesOf [aS [iC a0, iC a1, iC a2, iC a3, iC a4, iC a5], oneC (iC (IntKind.i64.wrap (a1 - b4)))] fun r _ => r = oneC (iC n_3)) ∧ (SV.box [iC a0, iC a1, iC a2, iC a3, iC a4, iC a5] = SV.box [iC a0, iC a1, iC a2, iC a3, iC a4, iC a5] ∧ SV.box [iC b0, iC b1, CV.rd (DV.sl 1 b2), CV.rd (DV.sl 1 b3), iC b4] = SV.box [iC b0, iC b1, CV.rd (DV.sl 1 b2),
  CV.rd (DV.sl 1 b3), iC b4]) ∧ ∃ (m : Nat), m < n_2 ∧ I (IntKind.i64.wrap (n + n_3)) (IntKind.i64.wrap (n_1 + 1)) m) ∧ (decide (n_1 = 0) = false → ∃ (n_3 : Int), (CallD Try.prog F_spec_SlicesOf [aS [iC a0, iC a1, iC a2, iC a3, iC a4, iC a5], oneC (iC a1)] fun r _ => r = oneC (iC n_3)) ∧ (SV.box [iC a0, iC a1, iC a2, iC a3, iC a4, iC a5] = SV.box [iC a0, iC a1, iC a2, iC a3, iC a4, iC a5] ∧ SV.box [iC b0, iC b1, CV.rd (DV.sl 1 b2), CV.rd (DV.sl 1 b3), iC b4] = SV.box [iC b0, iC b1, CV.rd (DV.sl 1 b2), CV.rd (DV.sl 1 b3), iC b4]) ∧ ∃ (m : Nat), m < n_2 ∧ I (IntKind.i64.wrap (n + n_3))
  (IntKind.i64.wrap (n_1 + 1)) m)) ∧ (decide (n_1 < nI (DV.sl 1 b3).n) = false → Q (oneC (iC n)) [SV.dead, SV.dead])
theorem v_spec_OwnSteps (a0 : Int) (a1 : Int) (a2 : Int) (a3 : Int) (a4 : Int) (a5 : Int) (b0 : Int) (b1 : Int) (b2 : List DV) (b3 : List DV) (b4 : Int) (Q : SV → List SV → Prop) : dwp Try.prog g_spec_OwnSteps (bodyOf Try.f42) (retK g_spec_OwnSteps Try.f42.results.toList 2 Q) ([.one (.agg [.sc (.int .i64 a0), .sc (.int .i64 a1), .sc (.int .i64 a2), .sc (.int .i64 a3), .sc (.int .i64 a4), .sc (.int .i64 a5)]), .one (.agg [.sc (.int .i64 b0), .sc (.int .i64 b1), .rd (.sl 1 b2), .rd (.sl 1 b3), .sc (.int .i64 b4)])] ++ List.replicate (Try.f42.ntmps - 2) .und) = vc_spec_OwnSteps a0 a1 a2 a3 a4 a5 b0 b1 b2 b3 b4 Q := by kernel_rfl
theorem k_spec_OwnSteps {a0 : Int} {a1 : Int} {a2 : Int} {a3 : Int} {a4 : Int} {a5 : Int} {b0 : Int} {b1 : Int} {b2 : List DV} {b3 : List DV} {b4 : Int} {Q : SV → List SV → Prop} (h : vc_spec_OwnSteps a0 a1 a2 a3 a4 a5 b0 b1 b2 b3 b4 Q) : CallD Try.prog F_spec_OwnSteps [.one (.agg [.sc (.int .i64 a0), .sc (.int .i64 a1), .sc (.int .i64 a2), .sc (.int .i64 a3), .sc (.int .i64 a4), .sc (.int .i64 a5)]), .one (.agg [.sc (.int .i64 b0), .sc (.int .i64 b1), .rd (.sl 1 b2), .rd (.sl 1 b3), .sc (.int .i64 b4)])] Q :=
  callD_of_dwp (C := g_spec_OwnSteps) tbOk mixed (by kernel_rfl : Try.prog.funcs[42]? = some Try.f42) (code := bodyOf Try.f42) (by kernel_rfl) (by kernel_rfl) (fun t ht => by cases ht) ((v_spec_OwnSteps a0 a1 a2 a3 a4 a5 b0 b1 b2 b3 b4 Q).mpr h)
def g_impl_OwnSteps : Cfg := { tb := tb, sg := sg, ann := fun | 3 => ([5, 14], [2, 3, 13]) | _ => ([], []), pin := [], mv := [], io := io, dy := dy, wr := fun _ => [] }
def vc_impl_OwnSteps (a0 : Int) (a1 : Int) (a2 : Int) (a3 : Int) (a4 : Int) (a5 : Int) (b0 : Int) (b1 : Int) (b2 : List DV) (b3 : List DV) (b4 : Int) (Q : SV → List SV → Prop) : Prop :=
  ∃ (I : Int → Int → Nat → Prop), (∃ (n : Nat), I (IntKind.i64.wrap (nI (DV.sl 1 b2).n + 1)) 0 n) ∧ ∀ (n n_1 : Int) (n_2 : Nat), I n n_1 n_2 → (decide (n_1 < nI (DV.sl 1 b3).n) = true → (decide (n_1 = 0) = true → ∃ (n_3 : Int), (CallD Try.prog F_impl_SlicesOf [aS [iC a0, iC a1, iC a2, iC a3, iC a4, iC a5], oneC (iC (IntKind.i64.wrap (a1 - b4)))] fun r _ => r = oneC (iC n_3)) ∧ (SV.box [iC a0, iC a1, iC a2, iC a3, iC a4, iC a5] = SV.box [iC a0, iC a1, iC a2, iC a3, iC a4, iC a5] ∧ SV.box [iC b0, iC b1, CV.rd (DV.sl 1 b2), CV.rd (DV.sl 1 b3), iC b4] = SV.box [iC b0, iC b1, CV.rd (DV.sl 1 b2),
  CV.rd (DV.sl 1 b3), iC b4] ∧ oneC (iC (nI (DV.sl 1 b3).n)) = oneC (iC (nI (DV.sl 1 b3).n))) ∧ ∃ (m : Nat), m < n_2 ∧ I (IntKind.i64.wrap (n + n_3)) (IntKind.i64.wrap (n_1 + 1)) m) ∧ (decide (n_1 = 0) = false → ∃ (n_3 : Int), (CallD Try.prog F_impl_SlicesOf [aS [iC a0, iC a1, iC a2, iC a3, iC a4, iC a5], oneC (iC a1)] fun r _ => r = oneC (iC n_3)) ∧ (SV.box [iC a0, iC a1, iC a2, iC a3, iC a4, iC a5] = SV.box [iC a0, iC a1, iC a2, iC a3, iC a4, iC a5] ∧ SV.box [iC b0, iC b1, CV.rd (DV.sl 1 b2), CV.rd (DV.sl 1 b3), iC b4] = SV.box [iC b0, iC b1, CV.rd (DV.sl 1 b2), CV.rd (DV.sl 1 b3), iC b4] ∧
  oneC (iC (nI (DV.sl 1 b3).n)) = oneC (iC (nI (DV.sl 1 b3).n))) ∧ ∃ (m : Nat), m < n_2 ∧ I (IntKind.i64.wrap (n + n_3)) (IntKind.i64.wrap (n_1 + 1)) m)) ∧ (decide (n_1 < nI (DV.sl 1 b3).n) = false → Q (oneC (iC n)) [SV.dead, SV.dead])
theorem v_impl_OwnSteps (a0 : Int) (a1 : Int) (a2 : Int) (a3 : Int) (a4 : Int) (a5 : Int) (b0 : Int) (b1 : Int) (b2 : List DV) (b3 : List DV) (b4 : Int) (Q : SV → List SV → Prop) : dwp Try.prog g_impl_OwnSteps (bodyOf Try.f44) (retK g_impl_OwnSteps Try.f44.results.toList 2 Q) ([.one (.agg [.sc (.int .i64 a0), .sc (.int .i64 a1), .sc (.int .i64 a2), .sc (.int .i64 a3), .sc (.int .i64 a4), .sc (.int .i64 a5)]), .one (.agg [.sc (.int .i64 b0), .sc (.int .i64 b1), .rd (.sl 1 b2), .rd (.sl 1 b3), .sc (.int .i64 b4)])] ++ List.replicate (Try.f44.ntmps - 2) .und) = vc_impl_OwnSteps a0 a1 a2 a3 a4 a5 b0 b1 b2 b3 b4 Q := by kernel_rfl
theorem k_impl_OwnSteps {a0 : Int} {a1 : Int} {a2 : Int} {a3 : Int} {a4 : Int} {a5 : Int} {b0 : Int} {b1 : Int} {b2 : List DV} {b3 : List DV} {b4 : Int} {Q : SV → List SV → Prop} (h : vc_impl_OwnSteps a0 a1 a2 a3 a4 a5 b0 b1 b2 b3 b4 Q) : CallD Try.prog F_impl_OwnSteps [.one (.agg [.sc (.int .i64 a0), .sc (.int .i64 a1), .sc (.int .i64 a2), .sc (.int .i64 a3), .sc (.int .i64 a4), .sc (.int .i64 a5)]), .one (.agg [.sc (.int .i64 b0), .sc (.int .i64 b1), .rd (.sl 1 b2), .rd (.sl 1 b3), .sc (.int .i64 b4)])] Q :=
  callD_of_dwp (C := g_impl_OwnSteps) tbOk mixed (by kernel_rfl : Try.prog.funcs[44]? = some Try.f44) (code := bodyOf Try.f44) (by kernel_rfl) (by kernel_rfl) (fun t ht => by cases ht) ((v_impl_OwnSteps a0 a1 a2 a3 a4 a5 b0 b1 b2 b3 b4 Q).mpr h)
def g_laws_FnExactOwnSteps : Cfg := { tb := tb, sg := sg, ann := fun _ => ([], []), pin := [], mv := [], io := io, dy := dy, wr := fun _ => [] }
def vc_laws_FnExactOwnSteps (a0 : Int) (a1 : Int) (a2 : Int) (a3 : Int) (a4 : Int) (a5 : Int) (b0 : Int) (b1 : Int) (b2 : List DV) (b3 : List DV) (b4 : Int) (Q : SV → List SV → Prop) : Prop :=
  ∃ (n : Int), (CallD Try.prog F_laws_szWaste [aS [iC b0, iC b1, CV.rd (DV.sl 1 b2), CV.rd (DV.sl 1 b3), iC b4], oneC (iC 1048576)] fun r _ => r = oneC (iC n)) ∧ (decide (n < 0) = true → Q (oneC (bC true)) [SV.dead, SV.dead]) ∧ (decide (n < 0) = false → ∃ (n : Int), ∃ (n_1 : Int), ∃ (n_2 : Int), ∃ (n_3 : Int), ∃ (n_4 : Int), ∃ (n_5 : Int), (CallD Try.prog F_laws_toConf [aS [iC a0, iC a1, iC a2, iC a3, iC a4, iC a5]] fun r _ => r = aS [iC n, iC n_1, iC n_2, iC n_3, iC n_4, iC n_5]) ∧ ∃ (n_6 : Int), ∃ (n_7 : Int), ∃ (es : List DV), ∃ (es_1 : List DV), ∃ (n_8 : Int), (CallD Try.prog F_laws_toWaste
  [aS [iC b0, iC b1, CV.rd (DV.sl 1 b2), CV.rd (DV.sl 1 b3), iC b4]] fun r _ => r = aS [iC n_6, iC n_7, CV.own (DV.sl 1 es), CV.own (DV.sl 1 es_1), iC n_8]) ∧ ∃ (n_9 : Int), (CallD Try.prog F_spec_OwnSteps [aS [iC n, iC n_1, iC n_2, iC n_3, iC n_4, iC n_5], aS [iC n_6, iC n_7, CV.rd (DV.sl 1 es), CV.rd (DV.sl 1 es_1), iC n_8]] fun r _ => r = oneC (iC n_9)) ∧ ∃ (n : Int), ∃ (n_10 : Int), ∃ (es : List DV), ∃ (es_2 : List DV), ∃ (n_11 : Int), (CallD Try.prog F_laws_toWaste [aS [iC b0, iC b1, CV.rd (DV.sl 1 b2), CV.rd (DV.sl 1 b3), iC b4]] fun r _ => r = aS [iC n, iC n_10, CV.own (DV.sl 1 es),
  CV.own (DV.sl 1 es_2), iC n_11]) ∧ ∃ (n_12 : Int), ∃ (n_13 : Int), ∃ (n_14 : Int), ∃ (n_15 : Int), ∃ (n_16 : Int), ∃ (n_17 : Int), (CallD Try.prog F_laws_toConf [aS [iC a0, iC a1, iC a2, iC a3, iC a4, iC a5]] fun r _ => r = aS [iC n_12, iC n_13, iC n_14, iC n_15, iC n_16, iC n_17]) ∧ ∃ (n_18 : Int), (CallD Try.prog F_impl_OwnSteps [aS [iC n_12, iC n_13, iC n_14, iC n_15, iC n_16, iC n_17], aS [iC n, iC n_10, CV.rd (DV.sl 1 es), CV.rd (DV.sl 1 es_2), iC n_11]] fun r _ => r = oneC (iC n_18)) ∧ ((!decide (n_18 = n_9)) = true → Q (oneC (bC false)) [SV.dead, SV.dead]) ∧ ((!decide (n_18 = n_9)) =
  false → ∃ (n_19 : Int), ∃ (n_20 : Int), ∃ (es_3 : List DV), ∃ (es_4 : List DV), ∃ (n_21 : Int), (CallD Try.prog F_laws_toWaste [aS [iC b0, iC b1, CV.rd (DV.sl 1 b2), CV.rd (DV.sl 1 b3), iC b4]] fun r _ => r = aS [iC n_19, iC n_20, CV.own (DV.sl 1 es_3), CV.own (DV.sl 1 es_4), iC n_21]) ∧ ∃ (b : Bool), (CallD Try.prog F_laws_eqWaste [aS [iC n, iC n_10, CV.rd (DV.sl 1 es), CV.rd (DV.sl 1 es_2), iC n_11], aS [iC n_19, iC n_20, CV.rd (DV.sl 1 es_3), CV.rd (DV.sl 1 es_4), iC n_21]] fun r _ => r = oneC (bC b)) ∧ (b = true → Q (oneC (bC true)) [SV.dead, SV.dead]) ∧ (b = false → Q (oneC (bC false))
  [SV.dead, SV.dead])))
theorem v_laws_FnExactOwnSteps (a0 : Int) (a1 : Int) (a2 : Int) (a3 : Int) (a4 : Int) (a5 : Int) (b0 : Int) (b1 : Int) (b2 : List DV) (b3 : List DV) (b4 : Int) (Q : SV → List SV → Prop) : dwp Try.prog g_laws_FnExactOwnSteps (bodyOf Try.f9) (retK g_laws_FnExactOwnSteps Try.f9.results.toList 2 Q) ([.one (.agg [.sc (.int .i64 a0), .sc (.int .i64 a1), .sc (.int .i64 a2), .sc (.int .i64 a3), .sc (.int .i64 a4), .sc (.int .i64 a5)]), .one (.agg [.sc (.int .i64 b0), .sc (.int .i64 b1), .rd (.sl 1 b2), .rd (.sl 1 b3), .sc (.int .i64 b4)])] ++ List.replicate (Try.f9.ntmps - 2) .und) = vc_laws_FnExactOwnSteps a0 a1 a2 a3 a4 a5 b0 b1 b2 b3 b4 Q := by kernel_rfl
theorem k_laws_FnExactOwnSteps {a0 : Int} {a1 : Int} {a2 : Int} {a3 : Int} {a4 : Int} {a5 : Int} {b0 : Int} {b1 : Int} {b2 : List DV} {b3 : List DV} {b4 : Int} {Q : SV → List SV → Prop} (h : vc_laws_FnExactOwnSteps a0 a1 a2 a3 a4 a5 b0 b1 b2 b3 b4 Q) : CallD Try.prog F_laws_FnExactOwnSteps [.one (.agg [.sc (.int .i64 a0), .sc (.int .i64 a1), .sc (.int .i64 a2), .sc (.int .i64 a3), .sc (.int .i64 a4), .sc (.int .i64 a5)]), .one (.agg [.sc (.int .i64 b0), .sc (.int .i64 b1), .rd (.sl 1 b2), .rd (.sl 1 b3), .sc (.int .i64 b4)])] Q :=
  callD_of_dwp (C := g_laws_FnExactOwnSteps) tbOk mixed (by kernel_rfl : Try.prog.funcs[9]? = some Try.f9) (code := bodyOf Try.f9) (by kernel_rfl) (by kernel_rfl) (fun t ht => by cases ht) ((v_laws_FnExactOwnSteps a0 a1 a2 a3 a4 a5 b0 b1 b2 b3 b4 Q).mpr h)
end Go.Proofs.Ytbmflnlppnkbaaa
