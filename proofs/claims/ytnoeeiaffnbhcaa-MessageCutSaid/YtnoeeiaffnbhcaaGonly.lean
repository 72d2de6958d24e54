/- A message with just its kind's fields, as the document tells it. Conditions: it is data of its kind. -/
import Derived.Test.YtnoeeiaffnbhcaaGrform
import Derived.Test.YtnoeeiaffnbhcaaGmload
import Derived.Test.YtnoeeiaffnbhcaaGsame
namespace Go.Proofs.Ytnoeeiaffnbhcaa.F
open Go.RowKit Go.Proofs.Ytnoeeiaffnbhcaa.M Go.Proofs.Ytnoeeiaffnbhcaa.V
set_option linter.unusedSimpArgs false
set_option linter.unusedVariables false
set_option maxRecDepth 20000
@[go_sem] theorem sq1_0 : ((⟨#[99, 97, 112, 115]⟩ : ByteArray).toList == (⟨#[114, 101, 113]⟩ : ByteArray).toList) = false := by kernel_rfl
@[go_sem] theorem sq2_0 : ((⟨#[116, 111, 107, 101, 110]⟩ : ByteArray).toList == (⟨#[114, 101, 113]⟩ : ByteArray).toList) = false := by kernel_rfl
@[go_sem] theorem sq2_1 : ((⟨#[116, 111, 107, 101, 110]⟩ : ByteArray).toList == (⟨#[99, 97, 112, 115]⟩ : ByteArray).toList) = false := by kernel_rfl
@[go_sem] theorem sq3_0 : ((⟨#[99, 111, 100, 101]⟩ : ByteArray).toList == (⟨#[114, 101, 113]⟩ : ByteArray).toList) = false := by kernel_rfl
@[go_sem] theorem sq3_1 : ((⟨#[99, 111, 100, 101]⟩ : ByteArray).toList == (⟨#[99, 97, 112, 115]⟩ : ByteArray).toList) = false := by kernel_rfl
@[go_sem] theorem sq3_2 : ((⟨#[99, 111, 100, 101]⟩ : ByteArray).toList == (⟨#[116, 111, 107, 101, 110]⟩ : ByteArray).toList) = false := by kernel_rfl
@[go_sem] theorem sq4_0 : ((⟨#[110]⟩ : ByteArray).toList == (⟨#[114, 101, 113]⟩ : ByteArray).toList) = false := by kernel_rfl
@[go_sem] theorem sq4_1 : ((⟨#[110]⟩ : ByteArray).toList == (⟨#[99, 97, 112, 115]⟩ : ByteArray).toList) = false := by kernel_rfl
@[go_sem] theorem sq4_2 : ((⟨#[110]⟩ : ByteArray).toList == (⟨#[116, 111, 107, 101, 110]⟩ : ByteArray).toList) = false := by kernel_rfl
@[go_sem] theorem sq4_3 : ((⟨#[110]⟩ : ByteArray).toList == (⟨#[99, 111, 100, 101]⟩ : ByteArray).toList) = false := by kernel_rfl
@[go_sem] theorem sq5_0 : ((⟨#[110, 97, 109, 101]⟩ : ByteArray).toList == (⟨#[114, 101, 113]⟩ : ByteArray).toList) = false := by kernel_rfl
@[go_sem] theorem sq5_1 : ((⟨#[110, 97, 109, 101]⟩ : ByteArray).toList == (⟨#[99, 97, 112, 115]⟩ : ByteArray).toList) = false := by kernel_rfl
@[go_sem] theorem sq5_2 : ((⟨#[110, 97, 109, 101]⟩ : ByteArray).toList == (⟨#[116, 111, 107, 101, 110]⟩ : ByteArray).toList) = false := by kernel_rfl
@[go_sem] theorem sq5_3 : ((⟨#[110, 97, 109, 101]⟩ : ByteArray).toList == (⟨#[99, 111, 100, 101]⟩ : ByteArray).toList) = false := by kernel_rfl
@[go_sem] theorem sq5_4 : ((⟨#[110, 97, 109, 101]⟩ : ByteArray).toList == (⟨#[110]⟩ : ByteArray).toList) = false := by kernel_rfl
@[go_sem] theorem sq6_0 : ((⟨#[99, 111, 110, 102]⟩ : ByteArray).toList == (⟨#[114, 101, 113]⟩ : ByteArray).toList) = false := by kernel_rfl
@[go_sem] theorem sq6_1 : ((⟨#[99, 111, 110, 102]⟩ : ByteArray).toList == (⟨#[99, 97, 112, 115]⟩ : ByteArray).toList) = false := by kernel_rfl
@[go_sem] theorem sq6_2 : ((⟨#[99, 111, 110, 102]⟩ : ByteArray).toList == (⟨#[116, 111, 107, 101, 110]⟩ : ByteArray).toList) = false := by kernel_rfl
@[go_sem] theorem sq6_3 : ((⟨#[99, 111, 110, 102]⟩ : ByteArray).toList == (⟨#[99, 111, 100, 101]⟩ : ByteArray).toList) = false := by kernel_rfl
@[go_sem] theorem sq6_4 : ((⟨#[99, 111, 110, 102]⟩ : ByteArray).toList == (⟨#[110]⟩ : ByteArray).toList) = false := by kernel_rfl
@[go_sem] theorem sq6_5 : ((⟨#[99, 111, 110, 102]⟩ : ByteArray).toList == (⟨#[110, 97, 109, 101]⟩ : ByteArray).toList) = false := by kernel_rfl
@[go_sem] theorem sq7_0 : ((⟨#[99, 104, 97, 110, 103, 101, 115]⟩ : ByteArray).toList == (⟨#[114, 101, 113]⟩ : ByteArray).toList) = false := by kernel_rfl
@[go_sem] theorem sq7_1 : ((⟨#[99, 104, 97, 110, 103, 101, 115]⟩ : ByteArray).toList == (⟨#[99, 97, 112, 115]⟩ : ByteArray).toList) = false := by kernel_rfl
@[go_sem] theorem sq7_2 : ((⟨#[99, 104, 97, 110, 103, 101, 115]⟩ : ByteArray).toList == (⟨#[116, 111, 107, 101, 110]⟩ : ByteArray).toList) = false := by kernel_rfl
@[go_sem] theorem sq7_3 : ((⟨#[99, 104, 97, 110, 103, 101, 115]⟩ : ByteArray).toList == (⟨#[99, 111, 100, 101]⟩ : ByteArray).toList) = false := by kernel_rfl
@[go_sem] theorem sq7_4 : ((⟨#[99, 104, 97, 110, 103, 101, 115]⟩ : ByteArray).toList == (⟨#[110]⟩ : ByteArray).toList) = false := by kernel_rfl
@[go_sem] theorem sq7_5 : ((⟨#[99, 104, 97, 110, 103, 101, 115]⟩ : ByteArray).toList == (⟨#[110, 97, 109, 101]⟩ : ByteArray).toList) = false := by kernel_rfl
@[go_sem] theorem sq7_6 : ((⟨#[99, 104, 97, 110, 103, 101, 115]⟩ : ByteArray).toList == (⟨#[99, 111, 110, 102]⟩ : ByteArray).toList) = false := by kernel_rfl
@[go_sem] theorem sq8_0 : ((⟨#[105, 100]⟩ : ByteArray).toList == (⟨#[114, 101, 113]⟩ : ByteArray).toList) = false := by kernel_rfl
@[go_sem] theorem sq8_1 : ((⟨#[105, 100]⟩ : ByteArray).toList == (⟨#[99, 97, 112, 115]⟩ : ByteArray).toList) = false := by kernel_rfl
@[go_sem] theorem sq8_2 : ((⟨#[105, 100]⟩ : ByteArray).toList == (⟨#[116, 111, 107, 101, 110]⟩ : ByteArray).toList) = false := by kernel_rfl
@[go_sem] theorem sq8_3 : ((⟨#[105, 100]⟩ : ByteArray).toList == (⟨#[99, 111, 100, 101]⟩ : ByteArray).toList) = false := by kernel_rfl
@[go_sem] theorem sq8_4 : ((⟨#[105, 100]⟩ : ByteArray).toList == (⟨#[110]⟩ : ByteArray).toList) = false := by kernel_rfl
@[go_sem] theorem sq8_5 : ((⟨#[105, 100]⟩ : ByteArray).toList == (⟨#[110, 97, 109, 101]⟩ : ByteArray).toList) = false := by kernel_rfl
@[go_sem] theorem sq8_6 : ((⟨#[105, 100]⟩ : ByteArray).toList == (⟨#[99, 111, 110, 102]⟩ : ByteArray).toList) = false := by kernel_rfl
@[go_sem] theorem sq8_7 : ((⟨#[105, 100]⟩ : ByteArray).toList == (⟨#[99, 104, 97, 110, 103, 101, 115]⟩ : ByteArray).toList) = false := by kernel_rfl
@[go_sem] theorem sq9_0 : ((⟨#[118, 101, 99]⟩ : ByteArray).toList == (⟨#[114, 101, 113]⟩ : ByteArray).toList) = false := by kernel_rfl
@[go_sem] theorem sq9_1 : ((⟨#[118, 101, 99]⟩ : ByteArray).toList == (⟨#[99, 97, 112, 115]⟩ : ByteArray).toList) = false := by kernel_rfl
@[go_sem] theorem sq9_2 : ((⟨#[118, 101, 99]⟩ : ByteArray).toList == (⟨#[116, 111, 107, 101, 110]⟩ : ByteArray).toList) = false := by kernel_rfl
@[go_sem] theorem sq9_3 : ((⟨#[118, 101, 99]⟩ : ByteArray).toList == (⟨#[99, 111, 100, 101]⟩ : ByteArray).toList) = false := by kernel_rfl
@[go_sem] theorem sq9_4 : ((⟨#[118, 101, 99]⟩ : ByteArray).toList == (⟨#[110]⟩ : ByteArray).toList) = false := by kernel_rfl
@[go_sem] theorem sq9_5 : ((⟨#[118, 101, 99]⟩ : ByteArray).toList == (⟨#[110, 97, 109, 101]⟩ : ByteArray).toList) = false := by kernel_rfl
@[go_sem] theorem sq9_6 : ((⟨#[118, 101, 99]⟩ : ByteArray).toList == (⟨#[99, 111, 110, 102]⟩ : ByteArray).toList) = false := by kernel_rfl
@[go_sem] theorem sq9_7 : ((⟨#[118, 101, 99]⟩ : ByteArray).toList == (⟨#[99, 104, 97, 110, 103, 101, 115]⟩ : ByteArray).toList) = false := by kernel_rfl
@[go_sem] theorem sq9_8 : ((⟨#[118, 101, 99]⟩ : ByteArray).toList == (⟨#[105, 100]⟩ : ByteArray).toList) = false := by kernel_rfl
@[go_sem] theorem sq10_0 : ((⟨#[107]⟩ : ByteArray).toList == (⟨#[114, 101, 113]⟩ : ByteArray).toList) = false := by kernel_rfl
@[go_sem] theorem sq10_1 : ((⟨#[107]⟩ : ByteArray).toList == (⟨#[99, 97, 112, 115]⟩ : ByteArray).toList) = false := by kernel_rfl
@[go_sem] theorem sq10_2 : ((⟨#[107]⟩ : ByteArray).toList == (⟨#[116, 111, 107, 101, 110]⟩ : ByteArray).toList) = false := by kernel_rfl
@[go_sem] theorem sq10_3 : ((⟨#[107]⟩ : ByteArray).toList == (⟨#[99, 111, 100, 101]⟩ : ByteArray).toList) = false := by kernel_rfl
@[go_sem] theorem sq10_4 : ((⟨#[107]⟩ : ByteArray).toList == (⟨#[110]⟩ : ByteArray).toList) = false := by kernel_rfl
@[go_sem] theorem sq10_5 : ((⟨#[107]⟩ : ByteArray).toList == (⟨#[110, 97, 109, 101]⟩ : ByteArray).toList) = false := by kernel_rfl
@[go_sem] theorem sq10_6 : ((⟨#[107]⟩ : ByteArray).toList == (⟨#[99, 111, 110, 102]⟩ : ByteArray).toList) = false := by kernel_rfl
@[go_sem] theorem sq10_7 : ((⟨#[107]⟩ : ByteArray).toList == (⟨#[99, 104, 97, 110, 103, 101, 115]⟩ : ByteArray).toList) = false := by kernel_rfl
@[go_sem] theorem sq10_8 : ((⟨#[107]⟩ : ByteArray).toList == (⟨#[105, 100]⟩ : ByteArray).toList) = false := by kernel_rfl
@[go_sem] theorem sq10_9 : ((⟨#[107]⟩ : ByteArray).toList == (⟨#[118, 101, 99]⟩ : ByteArray).toList) = false := by kernel_rfl
@[go_sem] theorem sq11_0 : ((⟨#[119, 105, 100, 116, 104]⟩ : ByteArray).toList == (⟨#[114, 101, 113]⟩ : ByteArray).toList) = false := by kernel_rfl
@[go_sem] theorem sq11_1 : ((⟨#[119, 105, 100, 116, 104]⟩ : ByteArray).toList == (⟨#[99, 97, 112, 115]⟩ : ByteArray).toList) = false := by kernel_rfl
@[go_sem] theorem sq11_2 : ((⟨#[119, 105, 100, 116, 104]⟩ : ByteArray).toList == (⟨#[116, 111, 107, 101, 110]⟩ : ByteArray).toList) = false := by kernel_rfl
@[go_sem] theorem sq11_3 : ((⟨#[119, 105, 100, 116, 104]⟩ : ByteArray).toList == (⟨#[99, 111, 100, 101]⟩ : ByteArray).toList) = false := by kernel_rfl
@[go_sem] theorem sq11_4 : ((⟨#[119, 105, 100, 116, 104]⟩ : ByteArray).toList == (⟨#[110]⟩ : ByteArray).toList) = false := by kernel_rfl
@[go_sem] theorem sq11_5 : ((⟨#[119, 105, 100, 116, 104]⟩ : ByteArray).toList == (⟨#[110, 97, 109, 101]⟩ : ByteArray).toList) = false := by kernel_rfl
@[go_sem] theorem sq11_6 : ((⟨#[119, 105, 100, 116, 104]⟩ : ByteArray).toList == (⟨#[99, 111, 110, 102]⟩ : ByteArray).toList) = false := by kernel_rfl
@[go_sem] theorem sq11_7 : ((⟨#[119, 105, 100, 116, 104]⟩ : ByteArray).toList == (⟨#[99, 104, 97, 110, 103, 101, 115]⟩ : ByteArray).toList) = false := by kernel_rfl
@[go_sem] theorem sq11_8 : ((⟨#[119, 105, 100, 116, 104]⟩ : ByteArray).toList == (⟨#[105, 100]⟩ : ByteArray).toList) = false := by kernel_rfl
@[go_sem] theorem sq11_9 : ((⟨#[119, 105, 100, 116, 104]⟩ : ByteArray).toList == (⟨#[118, 101, 99]⟩ : ByteArray).toList) = false := by kernel_rfl
@[go_sem] theorem sq11_10 : ((⟨#[119, 105, 100, 116, 104]⟩ : ByteArray).toList == (⟨#[107]⟩ : ByteArray).toList) = false := by kernel_rfl
@[go_sem] theorem sq12_0 : ((⟨#[102, 105, 108, 116, 101, 114]⟩ : ByteArray).toList == (⟨#[114, 101, 113]⟩ : ByteArray).toList) = false := by kernel_rfl
@[go_sem] theorem sq12_1 : ((⟨#[102, 105, 108, 116, 101, 114]⟩ : ByteArray).toList == (⟨#[99, 97, 112, 115]⟩ : ByteArray).toList) = false := by kernel_rfl
@[go_sem] theorem sq12_2 : ((⟨#[102, 105, 108, 116, 101, 114]⟩ : ByteArray).toList == (⟨#[116, 111, 107, 101, 110]⟩ : ByteArray).toList) = false := by kernel_rfl
@[go_sem] theorem sq12_3 : ((⟨#[102, 105, 108, 116, 101, 114]⟩ : ByteArray).toList == (⟨#[99, 111, 100, 101]⟩ : ByteArray).toList) = false := by kernel_rfl
@[go_sem] theorem sq12_4 : ((⟨#[102, 105, 108, 116, 101, 114]⟩ : ByteArray).toList == (⟨#[110]⟩ : ByteArray).toList) = false := by kernel_rfl
@[go_sem] theorem sq12_5 : ((⟨#[102, 105, 108, 116, 101, 114]⟩ : ByteArray).toList == (⟨#[110, 97, 109, 101]⟩ : ByteArray).toList) = false := by kernel_rfl
@[go_sem] theorem sq12_6 : ((⟨#[102, 105, 108, 116, 101, 114]⟩ : ByteArray).toList == (⟨#[99, 111, 110, 102]⟩ : ByteArray).toList) = false := by kernel_rfl
@[go_sem] theorem sq12_7 : ((⟨#[102, 105, 108, 116, 101, 114]⟩ : ByteArray).toList == (⟨#[99, 104, 97, 110, 103, 101, 115]⟩ : ByteArray).toList) = false := by kernel_rfl
@[go_sem] theorem sq12_8 : ((⟨#[102, 105, 108, 116, 101, 114]⟩ : ByteArray).toList == (⟨#[105, 100]⟩ : ByteArray).toList) = false := by kernel_rfl
@[go_sem] theorem sq12_9 : ((⟨#[102, 105, 108, 116, 101, 114]⟩ : ByteArray).toList == (⟨#[118, 101, 99]⟩ : ByteArray).toList) = false := by kernel_rfl
@[go_sem] theorem sq12_10 : ((⟨#[102, 105, 108, 116, 101, 114]⟩ : ByteArray).toList == (⟨#[107]⟩ : ByteArray).toList) = false := by kernel_rfl
@[go_sem] theorem sq12_11 : ((⟨#[102, 105, 108, 116, 101, 114]⟩ : ByteArray).toList == (⟨#[119, 105, 100, 116, 104]⟩ : ByteArray).toList) = false := by kernel_rfl
@[go_sem] theorem sq13_0 : ((⟨#[110, 117, 109]⟩ : ByteArray).toList == (⟨#[114, 101, 113]⟩ : ByteArray).toList) = false := by kernel_rfl
@[go_sem] theorem sq13_1 : ((⟨#[110, 117, 109]⟩ : ByteArray).toList == (⟨#[99, 97, 112, 115]⟩ : ByteArray).toList) = false := by kernel_rfl
@[go_sem] theorem sq13_2 : ((⟨#[110, 117, 109]⟩ : ByteArray).toList == (⟨#[116, 111, 107, 101, 110]⟩ : ByteArray).toList) = false := by kernel_rfl
@[go_sem] theorem sq13_3 : ((⟨#[110, 117, 109]⟩ : ByteArray).toList == (⟨#[99, 111, 100, 101]⟩ : ByteArray).toList) = false := by kernel_rfl
@[go_sem] theorem sq13_4 : ((⟨#[110, 117, 109]⟩ : ByteArray).toList == (⟨#[110]⟩ : ByteArray).toList) = false := by kernel_rfl
@[go_sem] theorem sq13_5 : ((⟨#[110, 117, 109]⟩ : ByteArray).toList == (⟨#[110, 97, 109, 101]⟩ : ByteArray).toList) = false := by kernel_rfl
@[go_sem] theorem sq13_6 : ((⟨#[110, 117, 109]⟩ : ByteArray).toList == (⟨#[99, 111, 110, 102]⟩ : ByteArray).toList) = false := by kernel_rfl
@[go_sem] theorem sq13_7 : ((⟨#[110, 117, 109]⟩ : ByteArray).toList == (⟨#[99, 104, 97, 110, 103, 101, 115]⟩ : ByteArray).toList) = false := by kernel_rfl
@[go_sem] theorem sq13_8 : ((⟨#[110, 117, 109]⟩ : ByteArray).toList == (⟨#[105, 100]⟩ : ByteArray).toList) = false := by kernel_rfl
@[go_sem] theorem sq13_9 : ((⟨#[110, 117, 109]⟩ : ByteArray).toList == (⟨#[118, 101, 99]⟩ : ByteArray).toList) = false := by kernel_rfl
@[go_sem] theorem sq13_10 : ((⟨#[110, 117, 109]⟩ : ByteArray).toList == (⟨#[107]⟩ : ByteArray).toList) = false := by kernel_rfl
@[go_sem] theorem sq13_11 : ((⟨#[110, 117, 109]⟩ : ByteArray).toList == (⟨#[119, 105, 100, 116, 104]⟩ : ByteArray).toList) = false := by kernel_rfl
@[go_sem] theorem sq13_12 : ((⟨#[110, 117, 109]⟩ : ByteArray).toList == (⟨#[102, 105, 108, 116, 101, 114]⟩ : ByteArray).toList) = false := by kernel_rfl
@[go_sem] theorem sq14_0 : ((⟨#[112, 97, 103, 101]⟩ : ByteArray).toList == (⟨#[114, 101, 113]⟩ : ByteArray).toList) = false := by kernel_rfl
@[go_sem] theorem sq14_1 : ((⟨#[112, 97, 103, 101]⟩ : ByteArray).toList == (⟨#[99, 97, 112, 115]⟩ : ByteArray).toList) = false := by kernel_rfl
@[go_sem] theorem sq14_2 : ((⟨#[112, 97, 103, 101]⟩ : ByteArray).toList == (⟨#[116, 111, 107, 101, 110]⟩ : ByteArray).toList) = false := by kernel_rfl
@[go_sem] theorem sq14_3 : ((⟨#[112, 97, 103, 101]⟩ : ByteArray).toList == (⟨#[99, 111, 100, 101]⟩ : ByteArray).toList) = false := by kernel_rfl
@[go_sem] theorem sq14_4 : ((⟨#[112, 97, 103, 101]⟩ : ByteArray).toList == (⟨#[110]⟩ : ByteArray).toList) = false := by kernel_rfl
@[go_sem] theorem sq14_5 : ((⟨#[112, 97, 103, 101]⟩ : ByteArray).toList == (⟨#[110, 97, 109, 101]⟩ : ByteArray).toList) = false := by kernel_rfl
@[go_sem] theorem sq14_6 : ((⟨#[112, 97, 103, 101]⟩ : ByteArray).toList == (⟨#[99, 111, 110, 102]⟩ : ByteArray).toList) = false := by kernel_rfl
@[go_sem] theorem sq14_7 : ((⟨#[112, 97, 103, 101]⟩ : ByteArray).toList == (⟨#[99, 104, 97, 110, 103, 101, 115]⟩ : ByteArray).toList) = false := by kernel_rfl
@[go_sem] theorem sq14_8 : ((⟨#[112, 97, 103, 101]⟩ : ByteArray).toList == (⟨#[105, 100]⟩ : ByteArray).toList) = false := by kernel_rfl
@[go_sem] theorem sq14_9 : ((⟨#[112, 97, 103, 101]⟩ : ByteArray).toList == (⟨#[118, 101, 99]⟩ : ByteArray).toList) = false := by kernel_rfl
@[go_sem] theorem sq14_10 : ((⟨#[112, 97, 103, 101]⟩ : ByteArray).toList == (⟨#[107]⟩ : ByteArray).toList) = false := by kernel_rfl
@[go_sem] theorem sq14_11 : ((⟨#[112, 97, 103, 101]⟩ : ByteArray).toList == (⟨#[119, 105, 100, 116, 104]⟩ : ByteArray).toList) = false := by kernel_rfl
@[go_sem] theorem sq14_12 : ((⟨#[112, 97, 103, 101]⟩ : ByteArray).toList == (⟨#[102, 105, 108, 116, 101, 114]⟩ : ByteArray).toList) = false := by kernel_rfl
@[go_sem] theorem sq14_13 : ((⟨#[112, 97, 103, 101]⟩ : ByteArray).toList == (⟨#[110, 117, 109]⟩ : ByteArray).toList) = false := by kernel_rfl
@[go_sem] theorem sq15_0 : ((⟨#[98, 121, 116, 101, 115]⟩ : ByteArray).toList == (⟨#[114, 101, 113]⟩ : ByteArray).toList) = false := by kernel_rfl
@[go_sem] theorem sq15_1 : ((⟨#[98, 121, 116, 101, 115]⟩ : ByteArray).toList == (⟨#[99, 97, 112, 115]⟩ : ByteArray).toList) = false := by kernel_rfl
@[go_sem] theorem sq15_2 : ((⟨#[98, 121, 116, 101, 115]⟩ : ByteArray).toList == (⟨#[116, 111, 107, 101, 110]⟩ : ByteArray).toList) = false := by kernel_rfl
@[go_sem] theorem sq15_3 : ((⟨#[98, 121, 116, 101, 115]⟩ : ByteArray).toList == (⟨#[99, 111, 100, 101]⟩ : ByteArray).toList) = false := by kernel_rfl
@[go_sem] theorem sq15_4 : ((⟨#[98, 121, 116, 101, 115]⟩ : ByteArray).toList == (⟨#[110]⟩ : ByteArray).toList) = false := by kernel_rfl
@[go_sem] theorem sq15_5 : ((⟨#[98, 121, 116, 101, 115]⟩ : ByteArray).toList == (⟨#[110, 97, 109, 101]⟩ : ByteArray).toList) = false := by kernel_rfl
@[go_sem] theorem sq15_6 : ((⟨#[98, 121, 116, 101, 115]⟩ : ByteArray).toList == (⟨#[99, 111, 110, 102]⟩ : ByteArray).toList) = false := by kernel_rfl
@[go_sem] theorem sq15_7 : ((⟨#[98, 121, 116, 101, 115]⟩ : ByteArray).toList == (⟨#[99, 104, 97, 110, 103, 101, 115]⟩ : ByteArray).toList) = false := by kernel_rfl
@[go_sem] theorem sq15_8 : ((⟨#[98, 121, 116, 101, 115]⟩ : ByteArray).toList == (⟨#[105, 100]⟩ : ByteArray).toList) = false := by kernel_rfl
@[go_sem] theorem sq15_9 : ((⟨#[98, 121, 116, 101, 115]⟩ : ByteArray).toList == (⟨#[118, 101, 99]⟩ : ByteArray).toList) = false := by kernel_rfl
@[go_sem] theorem sq15_10 : ((⟨#[98, 121, 116, 101, 115]⟩ : ByteArray).toList == (⟨#[107]⟩ : ByteArray).toList) = false := by kernel_rfl
@[go_sem] theorem sq15_11 : ((⟨#[98, 121, 116, 101, 115]⟩ : ByteArray).toList == (⟨#[119, 105, 100, 116, 104]⟩ : ByteArray).toList) = false := by kernel_rfl
@[go_sem] theorem sq15_12 : ((⟨#[98, 121, 116, 101, 115]⟩ : ByteArray).toList == (⟨#[102, 105, 108, 116, 101, 114]⟩ : ByteArray).toList) = false := by kernel_rfl
@[go_sem] theorem sq15_13 : ((⟨#[98, 121, 116, 101, 115]⟩ : ByteArray).toList == (⟨#[110, 117, 109]⟩ : ByteArray).toList) = false := by kernel_rfl
@[go_sem] theorem sq15_14 : ((⟨#[98, 121, 116, 101, 115]⟩ : ByteArray).toList == (⟨#[112, 97, 103, 101]⟩ : ByteArray).toList) = false := by kernel_rfl
@[go_sem] theorem sq16_0 : ((⟨#[118, 101, 114, 115, 105, 111, 110]⟩ : ByteArray).toList == (⟨#[114, 101, 113]⟩ : ByteArray).toList) = false := by kernel_rfl
@[go_sem] theorem sq16_1 : ((⟨#[118, 101, 114, 115, 105, 111, 110]⟩ : ByteArray).toList == (⟨#[99, 97, 112, 115]⟩ : ByteArray).toList) = false := by kernel_rfl
@[go_sem] theorem sq16_2 : ((⟨#[118, 101, 114, 115, 105, 111, 110]⟩ : ByteArray).toList == (⟨#[116, 111, 107, 101, 110]⟩ : ByteArray).toList) = false := by kernel_rfl
@[go_sem] theorem sq16_3 : ((⟨#[118, 101, 114, 115, 105, 111, 110]⟩ : ByteArray).toList == (⟨#[99, 111, 100, 101]⟩ : ByteArray).toList) = false := by kernel_rfl
@[go_sem] theorem sq16_4 : ((⟨#[118, 101, 114, 115, 105, 111, 110]⟩ : ByteArray).toList == (⟨#[110]⟩ : ByteArray).toList) = false := by kernel_rfl
@[go_sem] theorem sq16_5 : ((⟨#[118, 101, 114, 115, 105, 111, 110]⟩ : ByteArray).toList == (⟨#[110, 97, 109, 101]⟩ : ByteArray).toList) = false := by kernel_rfl
@[go_sem] theorem sq16_6 : ((⟨#[118, 101, 114, 115, 105, 111, 110]⟩ : ByteArray).toList == (⟨#[99, 111, 110, 102]⟩ : ByteArray).toList) = false := by kernel_rfl
@[go_sem] theorem sq16_7 : ((⟨#[118, 101, 114, 115, 105, 111, 110]⟩ : ByteArray).toList == (⟨#[99, 104, 97, 110, 103, 101, 115]⟩ : ByteArray).toList) = false := by kernel_rfl
@[go_sem] theorem sq16_8 : ((⟨#[118, 101, 114, 115, 105, 111, 110]⟩ : ByteArray).toList == (⟨#[105, 100]⟩ : ByteArray).toList) = false := by kernel_rfl
@[go_sem] theorem sq16_9 : ((⟨#[118, 101, 114, 115, 105, 111, 110]⟩ : ByteArray).toList == (⟨#[118, 101, 99]⟩ : ByteArray).toList) = false := by kernel_rfl
@[go_sem] theorem sq16_10 : ((⟨#[118, 101, 114, 115, 105, 111, 110]⟩ : ByteArray).toList == (⟨#[107]⟩ : ByteArray).toList) = false := by kernel_rfl
@[go_sem] theorem sq16_11 : ((⟨#[118, 101, 114, 115, 105, 111, 110]⟩ : ByteArray).toList == (⟨#[119, 105, 100, 116, 104]⟩ : ByteArray).toList) = false := by kernel_rfl
@[go_sem] theorem sq16_12 : ((⟨#[118, 101, 114, 115, 105, 111, 110]⟩ : ByteArray).toList == (⟨#[102, 105, 108, 116, 101, 114]⟩ : ByteArray).toList) = false := by kernel_rfl
@[go_sem] theorem sq16_13 : ((⟨#[118, 101, 114, 115, 105, 111, 110]⟩ : ByteArray).toList == (⟨#[110, 117, 109]⟩ : ByteArray).toList) = false := by kernel_rfl
@[go_sem] theorem sq16_14 : ((⟨#[118, 101, 114, 115, 105, 111, 110]⟩ : ByteArray).toList == (⟨#[112, 97, 103, 101]⟩ : ByteArray).toList) = false := by kernel_rfl
@[go_sem] theorem sq16_15 : ((⟨#[118, 101, 114, 115, 105, 111, 110]⟩ : ByteArray).toList == (⟨#[98, 121, 116, 101, 115]⟩ : ByteArray).toList) = false := by kernel_rfl
@[go_sem] theorem sq17_0 : ((⟨#[110, 97, 109, 101, 115]⟩ : ByteArray).toList == (⟨#[114, 101, 113]⟩ : ByteArray).toList) = false := by kernel_rfl
@[go_sem] theorem sq17_1 : ((⟨#[110, 97, 109, 101, 115]⟩ : ByteArray).toList == (⟨#[99, 97, 112, 115]⟩ : ByteArray).toList) = false := by kernel_rfl
@[go_sem] theorem sq17_2 : ((⟨#[110, 97, 109, 101, 115]⟩ : ByteArray).toList == (⟨#[116, 111, 107, 101, 110]⟩ : ByteArray).toList) = false := by kernel_rfl
@[go_sem] theorem sq17_3 : ((⟨#[110, 97, 109, 101, 115]⟩ : ByteArray).toList == (⟨#[99, 111, 100, 101]⟩ : ByteArray).toList) = false := by kernel_rfl
@[go_sem] theorem sq17_4 : ((⟨#[110, 97, 109, 101, 115]⟩ : ByteArray).toList == (⟨#[110]⟩ : ByteArray).toList) = false := by kernel_rfl
@[go_sem] theorem sq17_5 : ((⟨#[110, 97, 109, 101, 115]⟩ : ByteArray).toList == (⟨#[110, 97, 109, 101]⟩ : ByteArray).toList) = false := by kernel_rfl
@[go_sem] theorem sq17_6 : ((⟨#[110, 97, 109, 101, 115]⟩ : ByteArray).toList == (⟨#[99, 111, 110, 102]⟩ : ByteArray).toList) = false := by kernel_rfl
@[go_sem] theorem sq17_7 : ((⟨#[110, 97, 109, 101, 115]⟩ : ByteArray).toList == (⟨#[99, 104, 97, 110, 103, 101, 115]⟩ : ByteArray).toList) = false := by kernel_rfl
@[go_sem] theorem sq17_8 : ((⟨#[110, 97, 109, 101, 115]⟩ : ByteArray).toList == (⟨#[105, 100]⟩ : ByteArray).toList) = false := by kernel_rfl
@[go_sem] theorem sq17_9 : ((⟨#[110, 97, 109, 101, 115]⟩ : ByteArray).toList == (⟨#[118, 101, 99]⟩ : ByteArray).toList) = false := by kernel_rfl
@[go_sem] theorem sq17_10 : ((⟨#[110, 97, 109, 101, 115]⟩ : ByteArray).toList == (⟨#[107]⟩ : ByteArray).toList) = false := by kernel_rfl
@[go_sem] theorem sq17_11 : ((⟨#[110, 97, 109, 101, 115]⟩ : ByteArray).toList == (⟨#[119, 105, 100, 116, 104]⟩ : ByteArray).toList) = false := by kernel_rfl
@[go_sem] theorem sq17_12 : ((⟨#[110, 97, 109, 101, 115]⟩ : ByteArray).toList == (⟨#[102, 105, 108, 116, 101, 114]⟩ : ByteArray).toList) = false := by kernel_rfl
@[go_sem] theorem sq17_13 : ((⟨#[110, 97, 109, 101, 115]⟩ : ByteArray).toList == (⟨#[110, 117, 109]⟩ : ByteArray).toList) = false := by kernel_rfl
@[go_sem] theorem sq17_14 : ((⟨#[110, 97, 109, 101, 115]⟩ : ByteArray).toList == (⟨#[112, 97, 103, 101]⟩ : ByteArray).toList) = false := by kernel_rfl
@[go_sem] theorem sq17_15 : ((⟨#[110, 97, 109, 101, 115]⟩ : ByteArray).toList == (⟨#[98, 121, 116, 101, 115]⟩ : ByteArray).toList) = false := by kernel_rfl
@[go_sem] theorem sq17_16 : ((⟨#[110, 97, 109, 101, 115]⟩ : ByteArray).toList == (⟨#[118, 101, 114, 115, 105, 111, 110]⟩ : ByteArray).toList) = false := by kernel_rfl
@[go_sem] theorem sq18_0 : ((⟨#[105, 116, 101, 109, 115]⟩ : ByteArray).toList == (⟨#[114, 101, 113]⟩ : ByteArray).toList) = false := by kernel_rfl
@[go_sem] theorem sq18_1 : ((⟨#[105, 116, 101, 109, 115]⟩ : ByteArray).toList == (⟨#[99, 97, 112, 115]⟩ : ByteArray).toList) = false := by kernel_rfl
@[go_sem] theorem sq18_2 : ((⟨#[105, 116, 101, 109, 115]⟩ : ByteArray).toList == (⟨#[116, 111, 107, 101, 110]⟩ : ByteArray).toList) = false := by kernel_rfl
@[go_sem] theorem sq18_3 : ((⟨#[105, 116, 101, 109, 115]⟩ : ByteArray).toList == (⟨#[99, 111, 100, 101]⟩ : ByteArray).toList) = false := by kernel_rfl
@[go_sem] theorem sq18_4 : ((⟨#[105, 116, 101, 109, 115]⟩ : ByteArray).toList == (⟨#[110]⟩ : ByteArray).toList) = false := by kernel_rfl
@[go_sem] theorem sq18_5 : ((⟨#[105, 116, 101, 109, 115]⟩ : ByteArray).toList == (⟨#[110, 97, 109, 101]⟩ : ByteArray).toList) = false := by kernel_rfl
@[go_sem] theorem sq18_6 : ((⟨#[105, 116, 101, 109, 115]⟩ : ByteArray).toList == (⟨#[99, 111, 110, 102]⟩ : ByteArray).toList) = false := by kernel_rfl
@[go_sem] theorem sq18_7 : ((⟨#[105, 116, 101, 109, 115]⟩ : ByteArray).toList == (⟨#[99, 104, 97, 110, 103, 101, 115]⟩ : ByteArray).toList) = false := by kernel_rfl
@[go_sem] theorem sq18_8 : ((⟨#[105, 116, 101, 109, 115]⟩ : ByteArray).toList == (⟨#[105, 100]⟩ : ByteArray).toList) = false := by kernel_rfl
@[go_sem] theorem sq18_9 : ((⟨#[105, 116, 101, 109, 115]⟩ : ByteArray).toList == (⟨#[118, 101, 99]⟩ : ByteArray).toList) = false := by kernel_rfl
@[go_sem] theorem sq18_10 : ((⟨#[105, 116, 101, 109, 115]⟩ : ByteArray).toList == (⟨#[107]⟩ : ByteArray).toList) = false := by kernel_rfl
@[go_sem] theorem sq18_11 : ((⟨#[105, 116, 101, 109, 115]⟩ : ByteArray).toList == (⟨#[119, 105, 100, 116, 104]⟩ : ByteArray).toList) = false := by kernel_rfl
@[go_sem] theorem sq18_12 : ((⟨#[105, 116, 101, 109, 115]⟩ : ByteArray).toList == (⟨#[102, 105, 108, 116, 101, 114]⟩ : ByteArray).toList) = false := by kernel_rfl
@[go_sem] theorem sq18_13 : ((⟨#[105, 116, 101, 109, 115]⟩ : ByteArray).toList == (⟨#[110, 117, 109]⟩ : ByteArray).toList) = false := by kernel_rfl
@[go_sem] theorem sq18_14 : ((⟨#[105, 116, 101, 109, 115]⟩ : ByteArray).toList == (⟨#[112, 97, 103, 101]⟩ : ByteArray).toList) = false := by kernel_rfl
@[go_sem] theorem sq18_15 : ((⟨#[105, 116, 101, 109, 115]⟩ : ByteArray).toList == (⟨#[98, 121, 116, 101, 115]⟩ : ByteArray).toList) = false := by kernel_rfl
@[go_sem] theorem sq18_16 : ((⟨#[105, 116, 101, 109, 115]⟩ : ByteArray).toList == (⟨#[118, 101, 114, 115, 105, 111, 110]⟩ : ByteArray).toList) = false := by kernel_rfl
@[go_sem] theorem sq18_17 : ((⟨#[105, 116, 101, 109, 115]⟩ : ByteArray).toList == (⟨#[110, 97, 109, 101, 115]⟩ : ByteArray).toList) = false := by kernel_rfl
@[go_sem] theorem sq19_0 : ((⟨#[104, 105, 116, 115]⟩ : ByteArray).toList == (⟨#[114, 101, 113]⟩ : ByteArray).toList) = false := by kernel_rfl
@[go_sem] theorem sq19_1 : ((⟨#[104, 105, 116, 115]⟩ : ByteArray).toList == (⟨#[99, 97, 112, 115]⟩ : ByteArray).toList) = false := by kernel_rfl
@[go_sem] theorem sq19_2 : ((⟨#[104, 105, 116, 115]⟩ : ByteArray).toList == (⟨#[116, 111, 107, 101, 110]⟩ : ByteArray).toList) = false := by kernel_rfl
@[go_sem] theorem sq19_3 : ((⟨#[104, 105, 116, 115]⟩ : ByteArray).toList == (⟨#[99, 111, 100, 101]⟩ : ByteArray).toList) = false := by kernel_rfl
@[go_sem] theorem sq19_4 : ((⟨#[104, 105, 116, 115]⟩ : ByteArray).toList == (⟨#[110]⟩ : ByteArray).toList) = false := by kernel_rfl
@[go_sem] theorem sq19_5 : ((⟨#[104, 105, 116, 115]⟩ : ByteArray).toList == (⟨#[110, 97, 109, 101]⟩ : ByteArray).toList) = false := by kernel_rfl
@[go_sem] theorem sq19_6 : ((⟨#[104, 105, 116, 115]⟩ : ByteArray).toList == (⟨#[99, 111, 110, 102]⟩ : ByteArray).toList) = false := by kernel_rfl
@[go_sem] theorem sq19_7 : ((⟨#[104, 105, 116, 115]⟩ : ByteArray).toList == (⟨#[99, 104, 97, 110, 103, 101, 115]⟩ : ByteArray).toList) = false := by kernel_rfl
@[go_sem] theorem sq19_8 : ((⟨#[104, 105, 116, 115]⟩ : ByteArray).toList == (⟨#[105, 100]⟩ : ByteArray).toList) = false := by kernel_rfl
@[go_sem] theorem sq19_9 : ((⟨#[104, 105, 116, 115]⟩ : ByteArray).toList == (⟨#[118, 101, 99]⟩ : ByteArray).toList) = false := by kernel_rfl
@[go_sem] theorem sq19_10 : ((⟨#[104, 105, 116, 115]⟩ : ByteArray).toList == (⟨#[107]⟩ : ByteArray).toList) = false := by kernel_rfl
@[go_sem] theorem sq19_11 : ((⟨#[104, 105, 116, 115]⟩ : ByteArray).toList == (⟨#[119, 105, 100, 116, 104]⟩ : ByteArray).toList) = false := by kernel_rfl
@[go_sem] theorem sq19_12 : ((⟨#[104, 105, 116, 115]⟩ : ByteArray).toList == (⟨#[102, 105, 108, 116, 101, 114]⟩ : ByteArray).toList) = false := by kernel_rfl
@[go_sem] theorem sq19_13 : ((⟨#[104, 105, 116, 115]⟩ : ByteArray).toList == (⟨#[110, 117, 109]⟩ : ByteArray).toList) = false := by kernel_rfl
@[go_sem] theorem sq19_14 : ((⟨#[104, 105, 116, 115]⟩ : ByteArray).toList == (⟨#[112, 97, 103, 101]⟩ : ByteArray).toList) = false := by kernel_rfl
@[go_sem] theorem sq19_15 : ((⟨#[104, 105, 116, 115]⟩ : ByteArray).toList == (⟨#[98, 121, 116, 101, 115]⟩ : ByteArray).toList) = false := by kernel_rfl
@[go_sem] theorem sq19_16 : ((⟨#[104, 105, 116, 115]⟩ : ByteArray).toList == (⟨#[118, 101, 114, 115, 105, 111, 110]⟩ : ByteArray).toList) = false := by kernel_rfl
@[go_sem] theorem sq19_17 : ((⟨#[104, 105, 116, 115]⟩ : ByteArray).toList == (⟨#[110, 97, 109, 101, 115]⟩ : ByteArray).toList) = false := by kernel_rfl
@[go_sem] theorem sq19_18 : ((⟨#[104, 105, 116, 115]⟩ : ByteArray).toList == (⟨#[105, 116, 101, 109, 115]⟩ : ByteArray).toList) = false := by kernel_rfl

def onlyMsg (x : Msg) : Msg := match form x.kind with
  | none => zMsg x.kind
  | some l => copyAll (nums l) x (zMsg x.kind)
theorem refOnly_calls {w : World} {x : Msg} {cs : List Value} (hx : kMsg.rep (fun k => k < w.heap.size) w x cs) : callK Try.prog 17 #[.agg cs.toArray] w fun v w' =>
    ∃ ds, v = .agg (List.toArray ds) ∧ kMsg.rep (fun k => k < w.heap.size) w' (onlyMsg x) ds ∧ Keep w w' := by
  refine callK_of Try.func17 c17 r17 (by exact Nat.le_of_ble_eq_true rfl) ?_
  rw [m17]
  have h0 : cs[0]? = some (.int .u8 x.kind) := one_at (lnKind.get hx).1
  obtain ⟨k0, k1⟩ := wf_u8' (lnKind.get hx).2
  have hM1 : MsgAt 37 (fun k => k < w.heap.size) (w.alloc (.cells cs.toArray 37)) w.heap.size x := ⟨cs, Blk.new w _ _, kMsg.keep hx (Fx.alloc _ _ _)⟩
  have kA : Keep w (w.alloc (.cells cs.toArray 37)) := Fx.alloc _ w _
  have s1 := size_alloc w (.cells cs.toArray 37)
  simp -implicitDefEqProofs only [go_sem, ↓reduceIte, Nat.reduceEqDiff, Int.reduceLT, Nat.reduceLT, Int.reduceToNat, Int.reducePow, Nat.reduceAdd, Int.reduceEq, Nat.reduceLeDiff, Int.reduceLE, h0]
  generalize w.alloc (.cells cs.toArray 37) = w1 at *
  obtain ⟨bx, hbx⟩ : ∃ bx, bx = w.heap.size := ⟨_, rfl⟩
  rw [← hbx] at hM1 s1 ⊢
  have hb2 : Blk _ _ _ _ := Blk.new w1 37 #[.int .u8 0, .int .u32 0, .int .u32 0, .int .u64 0, .int .u8 0, .int .u32 0, .string ⟨#[]⟩, .string ⟨#[]⟩, .int .u8 0, .int .u8 0, .bool false, .int .u8 0, .int .u16 0, .slice none 0 0, .int .u32 0, .slice none 0 0, .int .u16 0, .int .u16 0, .slice none 0 0, .slice none 0 0, .slice none 0 0, .int .u32 0, .int .u32 0, .slice none 0 0, .int .u64 0, .slice none 0 0, .slice none 0 0, .slice none 0 0]
  have k2 : Keep w1 (w1.alloc (.cells #[.int .u8 0, .int .u32 0, .int .u32 0, .int .u64 0, .int .u8 0, .int .u32 0, .string ⟨#[]⟩, .string ⟨#[]⟩, .int .u8 0, .int .u8 0, .bool false, .int .u8 0, .int .u16 0, .slice none 0 0, .int .u32 0, .slice none 0 0, .int .u16 0, .int .u16 0, .slice none 0 0, .slice none 0 0, .slice none 0 0, .int .u32 0, .int .u32 0, .slice none 0 0, .int .u64 0, .slice none 0 0, .slice none 0 0, .slice none 0 0] 37)) := Fx.alloc _ w1 _
  have s2 := size_alloc w1 (.cells #[.int .u8 0, .int .u32 0, .int .u32 0, .int .u64 0, .int .u8 0, .int .u32 0, .string ⟨#[]⟩, .string ⟨#[]⟩, .int .u8 0, .int .u8 0, .bool false, .int .u8 0, .int .u16 0, .slice none 0 0, .int .u32 0, .slice none 0 0, .int .u16 0, .int .u16 0, .slice none 0 0, .slice none 0 0, .slice none 0 0, .int .u32 0, .int .u32 0, .slice none 0 0, .int .u64 0, .slice none 0 0, .slice none 0 0, .slice none 0 0] 37)
  have hM2 := hM1.keep k2
  generalize w1.alloc (.cells #[.int .u8 0, .int .u32 0, .int .u32 0, .int .u64 0, .int .u8 0, .int .u32 0, .string ⟨#[]⟩, .string ⟨#[]⟩, .int .u8 0, .int .u8 0, .bool false, .int .u8 0, .int .u16 0, .slice none 0 0, .int .u32 0, .slice none 0 0, .int .u16 0, .int .u16 0, .slice none 0 0, .slice none 0 0, .slice none 0 0, .int .u32 0, .int .u32 0, .slice none 0 0, .int .u64 0, .slice none 0 0, .slice none 0 0, .slice none 0 0] 37) = w2 at *
  obtain ⟨rb, hrb⟩ : ∃ rb, rb = w1.heap.size := ⟨_, rfl⟩
  rw [← hrb] at hb2 s2 ⊢
  obtain ⟨w3, S3, hY3, k3, s3⟩ := store_msg (w := w2) (zMsg_rep (U := fun k => k < bx) (w := w2) k0 k1)
  have hM3 := hM2.keep k3
  have hb3 := k3.blk hb2 (fun x => x)
  have hY3 : MsgAt 37 (fun k => k < bx) w3 w2.heap.size (zMsg x.kind) := by
    obtain ⟨cy, hy, hr⟩ := hY3
    exact ⟨cy, hy, kMsg.mono hr fun k _ hk => hk.1⟩
  have kk3 := (kA.tr k2).tr k3
  obtain ⟨v, hck, _, hv, _⟩ := hM3.cell lnKind rfl
  simp only [List.cons.injEq, and_true] at hv
  subst hv
  simp -implicitDefEqProofs only [go_sem, ↓reduceIte, Nat.reduceEqDiff, Int.reduceLT, Nat.reduceLT, Int.reduceToNat, Int.reducePow, Nat.reduceAdd, Int.reduceEq, Nat.reduceLeDiff, Int.reduceLE, S3, hck]
  obtain ⟨yb, hyb⟩ : ∃ yb, yb = w2.heap.size := ⟨_, rfl⟩
  rw [← hyb] at hY3 s3 ⊢
  refine (refForm_calls x.kind w3).mono ?_
  have fin : ∀ (wz : World) (m : Msg), Keep w wz → Blk wz rb 37 #[.int .u8 0, .int .u32 0, .int .u32 0, .int .u64 0, .int .u8 0, .int .u32 0, .string ⟨#[]⟩, .string ⟨#[]⟩, .int .u8 0, .int .u8 0, .bool false, .int .u8 0, .int .u16 0, .slice none 0 0, .int .u32 0, .slice none 0 0, .int .u16 0, .int .u16 0, .slice none 0 0, .slice none 0 0, .slice none 0 0, .int .u32 0, .int .u32 0, .slice none 0 0, .int .u64 0, .slice none 0 0, .slice none 0 0, .slice none 0 0] → MsgAt 37 (fun k => k < bx) wz yb m → ∃ ds, ldV Try.prog wz 37 (.pointer (some (At yb 0))) = some (.agg (List.toArray ds)) ∧ stV Try.prog wz 37 (.pointer (some (At rb 0))) (.agg (List.toArray ds)) = some (putW wz rb 0 ds) ∧
      ldV Try.prog (putW wz rb 0 ds) 37 (.pointer (some (At rb 0))) = some (.agg (List.toArray ds)) ∧ kMsg.rep (fun k => k < bx) (putW wz rb 0 ds) m ds ∧ Keep w (putW wz rb 0 ds) := by
    intro wz m kz hz hm
    obtain ⟨ds, ld, hr⟩ := msg_load hm
    have hl := kMsg.len hr
    exact ⟨ds, ld, stB (P := Try.prog) (o := 0) sz37 hz (by decide) ds hl (allOne_of (kMsg.one hr)), ldP (P := Try.prog) sh37 hz rfl ds hl, kMsg.fx hr (Fx.put (m := only rb) _ _ _ _ rfl) (fun k hk e => by have : k = rb := e; omega), kz.new (Fx.put (m := only rb) _ _ _ _ rfl) (fun k e hk => by have : k = rb := e; omega)⟩
  unfold onlyMsg
  rintro v w4 (⟨hf, rfl, rfl⟩ | ⟨l, hf, A, rfl, hnames, k4⟩)
  · rw [hf]
    have z : ¬ (0 : Int) < ((0 : Nat) : Int) := by omega
    simp -implicitDefEqProofs only [go_sem, ↓reduceIte, Nat.reduceEqDiff, Int.reduceLT, Nat.reduceLT, Int.reduceToNat, Int.reducePow, Nat.reduceAdd, Int.reduceEq, Nat.reduceLeDiff, Int.reduceLE]
    obtain ⟨ds, ld, st, ld2, hr, kz⟩ := fin _ _ kk3 hb3 hY3
    refine loop_intro (fun q f w' => f 2 = .pointer (some (At rb 0)) ∧ f 3 = .pointer (some (At yb 0)) ∧ f 4 = .slice none 0 0 ∧ f 6 = .int .i64 0 ∧ w' = w4) 0 ⟨by simp -implicitDefEqProofs only [go_sem, ↓reduceIte, Nat.reduceEqDiff, Int.reduceLT, Nat.reduceLT, Int.reduceToNat, Int.reducePow, Nat.reduceAdd, Int.reduceEq, Nat.reduceLeDiff, Int.reduceLE], by simp -implicitDefEqProofs only [go_sem, ↓reduceIte, Nat.reduceEqDiff, Int.reduceLT, Nat.reduceLT, Int.reduceToNat, Int.reducePow, Nat.reduceAdd, Int.reduceEq, Nat.reduceLeDiff, Int.reduceLE], by simp -implicitDefEqProofs only [go_sem, ↓reduceIte, Nat.reduceEqDiff, Int.reduceLT, Nat.reduceLT, Int.reduceToNat, Int.reducePow, Nat.reduceAdd, Int.reduceEq, Nat.reduceLeDiff, Int.reduceLE], by simp -implicitDefEqProofs only [go_sem, ↓reduceIte, Nat.reduceEqDiff, Int.reduceLT, Nat.reduceLT, Int.reduceToNat, Int.reducePow, Nat.reduceAdd, Int.reduceEq, Nat.reduceLeDiff, Int.reduceLE], rfl⟩ ?_
    rintro q f w5 ⟨g2, g3, g4, g6, rfl⟩
    simp -implicitDefEqProofs only [go_sem, ↓reduceIte, Nat.reduceEqDiff, Int.reduceLT, Nat.reduceLT, Int.reduceToNat, Int.reducePow, Nat.reduceAdd, Int.reduceEq, Nat.reduceLeDiff, Int.reduceLE, g2, g3, g4, g6, z, ld, st, ld2]
    exact ⟨ds, rfl, hr, kz⟩
  · rw [hf]
    obtain ⟨hl7, hlet⟩ := form_ok hf
    have hM4 := hM3.keep k4
    have hY4 := hY3.keep k4
    have hb4 := k4.blk hb3 (fun x => x)
    have kk4 := kk3.tr k4
    simp -implicitDefEqProofs only [go_sem, ↓reduceIte, Nat.reduceEqDiff, Int.reduceLT, Nat.reduceLT, Int.reduceToNat, Int.reducePow, Nat.reduceAdd, Int.reduceEq, Nat.reduceLeDiff, Int.reduceLE]
    refine loop_intro (fun q f w' => ∃ (i : Nat) (m : Msg), q = l.size - i ∧ i ≤ l.size ∧ f 1 = .pointer (some (At bx 0)) ∧ f 2 = .pointer (some (At rb 0)) ∧ f 3 = .pointer (some (At yb 0)) ∧ f 4 = .slice A l.size l.size ∧ f 6 = .int .i64 i ∧
        copyAll ((nums l).drop i) x m = copyAll (nums l) x (zMsg x.kind) ∧ Elems Kind.str (fun k => w3.heap.size ≤ k) w' A ((nums l).map nm) ∧ Blk w' rb 37 #[.int .u8 0, .int .u32 0, .int .u32 0, .int .u64 0, .int .u8 0, .int .u32 0, .string ⟨#[]⟩, .string ⟨#[]⟩, .int .u8 0, .int .u8 0, .bool false, .int .u8 0, .int .u16 0, .slice none 0 0, .int .u32 0, .slice none 0 0, .int .u16 0, .int .u16 0, .slice none 0 0, .slice none 0 0, .slice none 0 0, .int .u32 0, .int .u32 0, .slice none 0 0, .int .u64 0, .slice none 0 0, .slice none 0 0, .slice none 0 0] ∧ MsgAt 37 (fun k => k < bx) w' bx x ∧ MsgAt 37 (fun k => k < bx) w' yb m ∧ Keep w w') l.size
      ⟨0, _, rfl, by omega, by simp -implicitDefEqProofs only [go_sem, ↓reduceIte, Nat.reduceEqDiff, Int.reduceLT, Nat.reduceLT, Int.reduceToNat, Int.reducePow, Nat.reduceAdd, Int.reduceEq, Nat.reduceLeDiff, Int.reduceLE], by simp -implicitDefEqProofs only [go_sem, ↓reduceIte, Nat.reduceEqDiff, Int.reduceLT, Nat.reduceLT, Int.reduceToNat, Int.reducePow, Nat.reduceAdd, Int.reduceEq, Nat.reduceLeDiff, Int.reduceLE], by simp -implicitDefEqProofs only [go_sem, ↓reduceIte, Nat.reduceEqDiff, Int.reduceLT, Nat.reduceLT, Int.reduceToNat, Int.reducePow, Nat.reduceAdd, Int.reduceEq, Nat.reduceLeDiff, Int.reduceLE], by simp -implicitDefEqProofs only [go_sem, ↓reduceIte, Nat.reduceEqDiff, Int.reduceLT, Nat.reduceLT, Int.reduceToNat, Int.reducePow, Nat.reduceAdd, Int.reduceEq, Nat.reduceLeDiff, Int.reduceLE], by simp -implicitDefEqProofs only [go_sem, ↓reduceIte, Nat.reduceEqDiff, Int.reduceLT, Nat.reduceLT, Int.reduceToNat, Int.reducePow, Nat.reduceAdd, Int.reduceEq, Nat.reduceLeDiff, Int.reduceLE]; rfl, rfl, hnames, hb4, hM4, hY4, kk4⟩ ?_
    rintro q f w6 ⟨i, m, rfl, hi, g1, g2, g3, g4, g6, hcopy, hn6, hb6, hM6, hY6, kk6⟩
    by_cases hlt : i < l.size
    · have i0 : (0 : Int) ≤ (i : Int) := by omega
      have i1 : (i : Int) < (l.size : Int) := by omega
      have en : IntKind.i64.wrap ((i : Int) + 1) = ((i + 1 : Nat) : Int) := i64_nat (by omega) (by omega)
      obtain ⟨y, hy⟩ : ∃ y, (nums l)[i]? = some y := ⟨_, List.getElem?_eq_getElem (by rw [nums_len]; exact hlt)⟩
      have hyl := hlet y (List.mem_of_getElem? hy)
      have hdr : (nums l).drop i = y :: (nums l).drop (i + 1) := by
        rw [List.drop_eq_getElem_cons (by rw [nums_len]; exact hlt)]
        rw [List.getElem?_eq_getElem (by rw [nums_len]; exact hlt)] at hy
        cases hy; rfl
      rw [hdr] at hcopy
      obtain ⟨ad, rfl, hname⟩ := elem_str hn6 (i := i) (x := nm y) (by rw [List.getElem?_map, hy]; rfl)
      rw [Nat.mul_one] at hname
      have done : ∀ {wz : World} {f' : Fr}, Fx (only yb) w6 wz → MsgAt 37 (fun k => k < bx) wz yb ((fc y).set ((fc y).get x) m) → f' 1 = .pointer (some (At bx 0)) → f' 2 = .pointer (some (At rb 0)) → f' 3 = .pointer (some (At yb 0)) → f' 4 = .slice (some ad) l.size l.size → f' 6 = .int .i64 ((i + 1 : Nat) : Int) →
          decQ (fun q f w' => ∃ (i : Nat) (m : Msg), q = l.size - i ∧ i ≤ l.size ∧ f 1 = .pointer (some (At bx 0)) ∧ f 2 = .pointer (some (At rb 0)) ∧ f 3 = .pointer (some (At yb 0)) ∧ f 4 = .slice (some ad) l.size l.size ∧ f 6 = .int .i64 i ∧
            copyAll ((nums l).drop i) x m = copyAll (nums l) x (zMsg x.kind) ∧ Elems Kind.str (fun k => w3.heap.size ≤ k) w' (some ad) ((nums l).map nm) ∧ Blk w' rb 37 #[.int .u8 0, .int .u32 0, .int .u32 0, .int .u64 0, .int .u8 0, .int .u32 0, .string ⟨#[]⟩, .string ⟨#[]⟩, .int .u8 0, .int .u8 0, .bool false, .int .u8 0, .int .u16 0, .slice none 0 0, .int .u32 0, .slice none 0 0, .int .u16 0, .int .u16 0, .slice none 0 0, .slice none 0 0, .slice none 0 0, .int .u32 0, .int .u32 0, .slice none 0 0, .int .u64 0, .slice none 0 0, .slice none 0 0, .slice none 0 0] ∧ MsgAt 37 (fun k => k < bx) w' bx x ∧ MsgAt 37 (fun k => k < bx) w' yb m ∧ Keep w w') (l.size - i) f' wz := by
        intro wz f' fz hz h1 h2 h3 h4 h6
        exact ⟨l.size - (i + 1), by omega, i + 1, _, rfl, by omega, h1, h2, h3, h4, h6, hcopy, hn6.fx fz (fun k hk e => by have : k = yb := e; omega), fz.blk hb6 (fun e => by have : rb = yb := e; omega), hM6.fx fz (fun e => by have : bx = yb := e; omega) (fun k hk _ e => by have : k = yb := e; omega), hz, kk6.new fz (fun k e hk => by have : k = yb := e; omega)⟩
      rcases letters_cases hyl with rfl|rfl|rfl|rfl|rfl|rfl|rfl|rfl|rfl|rfl|rfl|rfl|rfl|rfl|rfl|rfl|rfl|rfl|rfl|rfl
      · have hcx : w6.cell? (ad.add i) = some (.string ⟨#[114, 101, 113]⟩) := hname
        obtain ⟨v, hc, hfz, hv⟩ := hM6.cell lnReq rfl
        obtain ⟨u, hc2, hfz2, _⟩ := hY6.cell lnReq rfl
        have ov : v.oneCell' = true := ((Kind.int .u32)).one hv v (by simp)
        simp -implicitDefEqProofs only [go_sem, ↓reduceIte, Nat.reduceEqDiff, Int.reduceLT, Nat.reduceLT, Int.reduceToNat, Int.reducePow, Nat.reduceAdd, Int.reduceEq, Nat.reduceLeDiff, Int.reduceLE, g1, g3, g4, g6, i0, i1, hcx, hc, hc2, hfz2, ov, en, beq_self_eq_true]
        refine done (Fx.set (m := only yb) _ _ _ rfl) (hY6.set lnReq (by omega) hv (by decide)) ?_ ?_ ?_ ?_ ?_
        all_goals simp -implicitDefEqProofs only [go_sem, ↓reduceIte, Nat.reduceEqDiff, Int.reduceLT, Nat.reduceLT, Int.reduceToNat, Int.reducePow, Nat.reduceAdd, Int.reduceEq, Nat.reduceLeDiff, Int.reduceLE, g1, g2, g3, g4]
      · have hcx : w6.cell? (ad.add i) = some (.string ⟨#[99, 97, 112, 115]⟩) := hname
        obtain ⟨v, hc, hfz, hv⟩ := hM6.cell lnCaps rfl
        obtain ⟨u, hc2, hfz2, _⟩ := hY6.cell lnCaps rfl
        have ov : v.oneCell' = true := ((Kind.int .u32)).one hv v (by simp)
        simp -implicitDefEqProofs only [go_sem, ↓reduceIte, Nat.reduceEqDiff, Int.reduceLT, Nat.reduceLT, Int.reduceToNat, Int.reducePow, Nat.reduceAdd, Int.reduceEq, Nat.reduceLeDiff, Int.reduceLE, g1, g3, g4, g6, i0, i1, hcx, hc, hc2, hfz2, ov, en, beq_self_eq_true]
        refine done (Fx.set (m := only yb) _ _ _ rfl) (hY6.set lnCaps (by omega) hv (by decide)) ?_ ?_ ?_ ?_ ?_
        all_goals simp -implicitDefEqProofs only [go_sem, ↓reduceIte, Nat.reduceEqDiff, Int.reduceLT, Nat.reduceLT, Int.reduceToNat, Int.reducePow, Nat.reduceAdd, Int.reduceEq, Nat.reduceLeDiff, Int.reduceLE, g1, g2, g3, g4]
      · have hcx : w6.cell? (ad.add i) = some (.string ⟨#[116, 111, 107, 101, 110]⟩) := hname
        obtain ⟨v, hc, hfz, hv⟩ := hM6.cell lnToken rfl
        obtain ⟨u, hc2, hfz2, _⟩ := hY6.cell lnToken rfl
        have ov : v.oneCell' = true := ((Kind.int .u64)).one hv v (by simp)
        simp -implicitDefEqProofs only [go_sem, ↓reduceIte, Nat.reduceEqDiff, Int.reduceLT, Nat.reduceLT, Int.reduceToNat, Int.reducePow, Nat.reduceAdd, Int.reduceEq, Nat.reduceLeDiff, Int.reduceLE, g1, g3, g4, g6, i0, i1, hcx, hc, hc2, hfz2, ov, en, beq_self_eq_true]
        refine done (Fx.set (m := only yb) _ _ _ rfl) (hY6.set lnToken (by omega) hv (by decide)) ?_ ?_ ?_ ?_ ?_
        all_goals simp -implicitDefEqProofs only [go_sem, ↓reduceIte, Nat.reduceEqDiff, Int.reduceLT, Nat.reduceLT, Int.reduceToNat, Int.reducePow, Nat.reduceAdd, Int.reduceEq, Nat.reduceLeDiff, Int.reduceLE, g1, g2, g3, g4]
      · have hcx : w6.cell? (ad.add i) = some (.string ⟨#[99, 111, 100, 101]⟩) := hname
        obtain ⟨v, hc, hfz, hv⟩ := hM6.cell lnCode rfl
        obtain ⟨u, hc2, hfz2, _⟩ := hY6.cell lnCode rfl
        have ov : v.oneCell' = true := ((Kind.int .u8)).one hv v (by simp)
        simp -implicitDefEqProofs only [go_sem, ↓reduceIte, Nat.reduceEqDiff, Int.reduceLT, Nat.reduceLT, Int.reduceToNat, Int.reducePow, Nat.reduceAdd, Int.reduceEq, Nat.reduceLeDiff, Int.reduceLE, g1, g3, g4, g6, i0, i1, hcx, hc, hc2, hfz2, ov, en, beq_self_eq_true]
        refine done (Fx.set (m := only yb) _ _ _ rfl) (hY6.set lnCode (by omega) hv (by decide)) ?_ ?_ ?_ ?_ ?_
        all_goals simp -implicitDefEqProofs only [go_sem, ↓reduceIte, Nat.reduceEqDiff, Int.reduceLT, Nat.reduceLT, Int.reduceToNat, Int.reducePow, Nat.reduceAdd, Int.reduceEq, Nat.reduceLeDiff, Int.reduceLE, g1, g2, g3, g4]
      · have hcx : w6.cell? (ad.add i) = some (.string ⟨#[110]⟩) := hname
        obtain ⟨v, hc, hfz, hv⟩ := hM6.cell lnN rfl
        obtain ⟨u, hc2, hfz2, _⟩ := hY6.cell lnN rfl
        have ov : v.oneCell' = true := ((Kind.int .u32)).one hv v (by simp)
        simp -implicitDefEqProofs only [go_sem, ↓reduceIte, Nat.reduceEqDiff, Int.reduceLT, Nat.reduceLT, Int.reduceToNat, Int.reducePow, Nat.reduceAdd, Int.reduceEq, Nat.reduceLeDiff, Int.reduceLE, g1, g3, g4, g6, i0, i1, hcx, hc, hc2, hfz2, ov, en, beq_self_eq_true]
        refine done (Fx.set (m := only yb) _ _ _ rfl) (hY6.set lnN (by omega) hv (by decide)) ?_ ?_ ?_ ?_ ?_
        all_goals simp -implicitDefEqProofs only [go_sem, ↓reduceIte, Nat.reduceEqDiff, Int.reduceLT, Nat.reduceLT, Int.reduceToNat, Int.reducePow, Nat.reduceAdd, Int.reduceEq, Nat.reduceLeDiff, Int.reduceLE, g1, g2, g3, g4]
      · have hcx : w6.cell? (ad.add i) = some (.string ⟨#[110, 97, 109, 101]⟩) := hname
        obtain ⟨v, hc, hfz, hv⟩ := hM6.cell lnName rfl
        obtain ⟨u, hc2, hfz2, _⟩ := hY6.cell lnName rfl
        have ov : v.oneCell' = true := (Kind.str).one hv v (by simp)
        simp -implicitDefEqProofs only [go_sem, ↓reduceIte, Nat.reduceEqDiff, Int.reduceLT, Nat.reduceLT, Int.reduceToNat, Int.reducePow, Nat.reduceAdd, Int.reduceEq, Nat.reduceLeDiff, Int.reduceLE, g1, g3, g4, g6, i0, i1, hcx, hc, hc2, hfz2, ov, en, beq_self_eq_true]
        refine done (Fx.set (m := only yb) _ _ _ rfl) (hY6.set lnName (by omega) hv (by decide)) ?_ ?_ ?_ ?_ ?_
        all_goals simp -implicitDefEqProofs only [go_sem, ↓reduceIte, Nat.reduceEqDiff, Int.reduceLT, Nat.reduceLT, Int.reduceToNat, Int.reducePow, Nat.reduceAdd, Int.reduceEq, Nat.reduceLeDiff, Int.reduceLE, g1, g2, g3, g4]
      · have hcx : w6.cell? (ad.add i) = some (.string ⟨#[99, 111, 110, 102]⟩) := hname
        obtain ⟨cx, hbx, hrx⟩ := id hM6
        obtain ⟨cy, hby, hry⟩ := id hY6
        have hlx : cx.length = 28 := kMsg.len hrx
        have hly : cy.length = 28 := kMsg.len hry
        have hv := lnConf.get hrx
        have hvl : ((cx.drop 7).take 6).length = 6 := kConf.len hv
        have hld := ldV_agg (P := Try.prog) (w := w6) sh27 hvl (ad := At bx 7) (cells_in hbx 7 6)
        have S0 := stB (P := Try.prog) (o := 7) sz27 hby (by simp [hly]) _ hvl (allOne_of (kConf.one hv))
        simp -implicitDefEqProofs only [go_sem, ↓reduceIte, Nat.reduceEqDiff, Int.reduceLT, Nat.reduceLT, Int.reduceToNat, Int.reducePow, Nat.reduceAdd, Int.reduceEq, Nat.reduceLeDiff, Int.reduceLE, g1, g3, g4, g6, i0, i1, hcx, hld, S0, en, beq_self_eq_true]
        have f7 : Fx (only yb) w6 (putW w6 yb 7 ((cx.drop 7).take 6)) := Fx.put _ _ _ _ rfl
        refine done f7 ⟨_, hby.put 7 _, kMsg.fx (lnConf.put hry hv) f7 (fun k hk e => by have : k = yb := e; omega)⟩ ?_ ?_ ?_ ?_ ?_
        all_goals simp -implicitDefEqProofs only [go_sem, ↓reduceIte, Nat.reduceEqDiff, Int.reduceLT, Nat.reduceLT, Int.reduceToNat, Int.reducePow, Nat.reduceAdd, Int.reduceEq, Nat.reduceLeDiff, Int.reduceLE, g1, g2, g3, g4]
      · have hcx : w6.cell? (ad.add i) = some (.string ⟨#[99, 104, 97, 110, 103, 101, 115]⟩) := hname
        obtain ⟨v, hc, hfz, hv⟩ := hM6.cell lnChanges rfl
        obtain ⟨u, hc2, hfz2, _⟩ := hY6.cell lnChanges rfl
        have ov : v.oneCell' = true := (kChanges).one hv v (by simp)
        simp -implicitDefEqProofs only [go_sem, ↓reduceIte, Nat.reduceEqDiff, Int.reduceLT, Nat.reduceLT, Int.reduceToNat, Int.reducePow, Nat.reduceAdd, Int.reduceEq, Nat.reduceLeDiff, Int.reduceLE, g1, g3, g4, g6, i0, i1, hcx, hc, hc2, hfz2, ov, en, beq_self_eq_true]
        refine done (Fx.set (m := only yb) _ _ _ rfl) (hY6.set lnChanges (by omega) hv (by decide)) ?_ ?_ ?_ ?_ ?_
        all_goals simp -implicitDefEqProofs only [go_sem, ↓reduceIte, Nat.reduceEqDiff, Int.reduceLT, Nat.reduceLT, Int.reduceToNat, Int.reducePow, Nat.reduceAdd, Int.reduceEq, Nat.reduceLeDiff, Int.reduceLE, g1, g2, g3, g4]
      · have hcx : w6.cell? (ad.add i) = some (.string ⟨#[105, 100]⟩) := hname
        obtain ⟨v, hc, hfz, hv⟩ := hM6.cell lnId rfl
        obtain ⟨u, hc2, hfz2, _⟩ := hY6.cell lnId rfl
        have ov : v.oneCell' = true := ((Kind.int .u32)).one hv v (by simp)
        simp -implicitDefEqProofs only [go_sem, ↓reduceIte, Nat.reduceEqDiff, Int.reduceLT, Nat.reduceLT, Int.reduceToNat, Int.reducePow, Nat.reduceAdd, Int.reduceEq, Nat.reduceLeDiff, Int.reduceLE, g1, g3, g4, g6, i0, i1, hcx, hc, hc2, hfz2, ov, en, beq_self_eq_true]
        refine done (Fx.set (m := only yb) _ _ _ rfl) (hY6.set lnId (by omega) hv (by decide)) ?_ ?_ ?_ ?_ ?_
        all_goals simp -implicitDefEqProofs only [go_sem, ↓reduceIte, Nat.reduceEqDiff, Int.reduceLT, Nat.reduceLT, Int.reduceToNat, Int.reducePow, Nat.reduceAdd, Int.reduceEq, Nat.reduceLeDiff, Int.reduceLE, g1, g2, g3, g4]
      · have hcx : w6.cell? (ad.add i) = some (.string ⟨#[118, 101, 99]⟩) := hname
        obtain ⟨v, hc, hfz, hv⟩ := hM6.cell lnVec rfl
        obtain ⟨u, hc2, hfz2, _⟩ := hY6.cell lnVec rfl
        have ov : v.oneCell' = true := (kVec).one hv v (by simp)
        simp -implicitDefEqProofs only [go_sem, ↓reduceIte, Nat.reduceEqDiff, Int.reduceLT, Nat.reduceLT, Int.reduceToNat, Int.reducePow, Nat.reduceAdd, Int.reduceEq, Nat.reduceLeDiff, Int.reduceLE, g1, g3, g4, g6, i0, i1, hcx, hc, hc2, hfz2, ov, en, beq_self_eq_true]
        refine done (Fx.set (m := only yb) _ _ _ rfl) (hY6.set lnVec (by omega) hv (by decide)) ?_ ?_ ?_ ?_ ?_
        all_goals simp -implicitDefEqProofs only [go_sem, ↓reduceIte, Nat.reduceEqDiff, Int.reduceLT, Nat.reduceLT, Int.reduceToNat, Int.reducePow, Nat.reduceAdd, Int.reduceEq, Nat.reduceLeDiff, Int.reduceLE, g1, g2, g3, g4]
      · have hcx : w6.cell? (ad.add i) = some (.string ⟨#[107]⟩) := hname
        obtain ⟨v, hc, hfz, hv⟩ := hM6.cell lnK rfl
        obtain ⟨u, hc2, hfz2, _⟩ := hY6.cell lnK rfl
        have ov : v.oneCell' = true := ((Kind.int .u16)).one hv v (by simp)
        simp -implicitDefEqProofs only [go_sem, ↓reduceIte, Nat.reduceEqDiff, Int.reduceLT, Nat.reduceLT, Int.reduceToNat, Int.reducePow, Nat.reduceAdd, Int.reduceEq, Nat.reduceLeDiff, Int.reduceLE, g1, g3, g4, g6, i0, i1, hcx, hc, hc2, hfz2, ov, en, beq_self_eq_true]
        refine done (Fx.set (m := only yb) _ _ _ rfl) (hY6.set lnK (by omega) hv (by decide)) ?_ ?_ ?_ ?_ ?_
        all_goals simp -implicitDefEqProofs only [go_sem, ↓reduceIte, Nat.reduceEqDiff, Int.reduceLT, Nat.reduceLT, Int.reduceToNat, Int.reducePow, Nat.reduceAdd, Int.reduceEq, Nat.reduceLeDiff, Int.reduceLE, g1, g2, g3, g4]
      · have hcx : w6.cell? (ad.add i) = some (.string ⟨#[119, 105, 100, 116, 104]⟩) := hname
        obtain ⟨v, hc, hfz, hv⟩ := hM6.cell lnWidth rfl
        obtain ⟨u, hc2, hfz2, _⟩ := hY6.cell lnWidth rfl
        have ov : v.oneCell' = true := ((Kind.int .u16)).one hv v (by simp)
        simp -implicitDefEqProofs only [go_sem, ↓reduceIte, Nat.reduceEqDiff, Int.reduceLT, Nat.reduceLT, Int.reduceToNat, Int.reducePow, Nat.reduceAdd, Int.reduceEq, Nat.reduceLeDiff, Int.reduceLE, g1, g3, g4, g6, i0, i1, hcx, hc, hc2, hfz2, ov, en, beq_self_eq_true]
        refine done (Fx.set (m := only yb) _ _ _ rfl) (hY6.set lnWidth (by omega) hv (by decide)) ?_ ?_ ?_ ?_ ?_
        all_goals simp -implicitDefEqProofs only [go_sem, ↓reduceIte, Nat.reduceEqDiff, Int.reduceLT, Nat.reduceLT, Int.reduceToNat, Int.reducePow, Nat.reduceAdd, Int.reduceEq, Nat.reduceLeDiff, Int.reduceLE, g1, g2, g3, g4]
      · have hcx : w6.cell? (ad.add i) = some (.string ⟨#[102, 105, 108, 116, 101, 114]⟩) := hname
        obtain ⟨cx, hbx, hrx⟩ := id hM6
        obtain ⟨cy, hby, hry⟩ := id hY6
        have hlx : cx.length = 28 := kMsg.len hrx
        have hly : cy.length = 28 := kMsg.len hry
        have hv := lnFilter.get hrx
        have hvl : ((cx.drop 18).take 3).length = 3 := kFilter.len hv
        have hld := ldV_agg (P := Try.prog) (w := w6) sh32 hvl (ad := At bx 18) (cells_in hbx 18 3)
        have S0 := stB (P := Try.prog) (o := 18) sz32 hby (by simp [hly]) _ hvl (allOne_of (kFilter.one hv))
        simp -implicitDefEqProofs only [go_sem, ↓reduceIte, Nat.reduceEqDiff, Int.reduceLT, Nat.reduceLT, Int.reduceToNat, Int.reducePow, Nat.reduceAdd, Int.reduceEq, Nat.reduceLeDiff, Int.reduceLE, g1, g3, g4, g6, i0, i1, hcx, hld, S0, en, beq_self_eq_true]
        have f7 : Fx (only yb) w6 (putW w6 yb 18 ((cx.drop 18).take 3)) := Fx.put _ _ _ _ rfl
        refine done f7 ⟨_, hby.put 18 _, kMsg.fx (lnFilter.put hry hv) f7 (fun k hk e => by have : k = yb := e; omega)⟩ ?_ ?_ ?_ ?_ ?_
        all_goals simp -implicitDefEqProofs only [go_sem, ↓reduceIte, Nat.reduceEqDiff, Int.reduceLT, Nat.reduceLT, Int.reduceToNat, Int.reducePow, Nat.reduceAdd, Int.reduceEq, Nat.reduceLeDiff, Int.reduceLE, g1, g2, g3, g4]
      · have hcx : w6.cell? (ad.add i) = some (.string ⟨#[110, 117, 109]⟩) := hname
        obtain ⟨v, hc, hfz, hv⟩ := hM6.cell lnNum rfl
        obtain ⟨u, hc2, hfz2, _⟩ := hY6.cell lnNum rfl
        have ov : v.oneCell' = true := ((Kind.int .u32)).one hv v (by simp)
        simp -implicitDefEqProofs only [go_sem, ↓reduceIte, Nat.reduceEqDiff, Int.reduceLT, Nat.reduceLT, Int.reduceToNat, Int.reducePow, Nat.reduceAdd, Int.reduceEq, Nat.reduceLeDiff, Int.reduceLE, g1, g3, g4, g6, i0, i1, hcx, hc, hc2, hfz2, ov, en, beq_self_eq_true]
        refine done (Fx.set (m := only yb) _ _ _ rfl) (hY6.set lnNum (by omega) hv (by decide)) ?_ ?_ ?_ ?_ ?_
        all_goals simp -implicitDefEqProofs only [go_sem, ↓reduceIte, Nat.reduceEqDiff, Int.reduceLT, Nat.reduceLT, Int.reduceToNat, Int.reducePow, Nat.reduceAdd, Int.reduceEq, Nat.reduceLeDiff, Int.reduceLE, g1, g2, g3, g4]
      · have hcx : w6.cell? (ad.add i) = some (.string ⟨#[112, 97, 103, 101]⟩) := hname
        obtain ⟨v, hc, hfz, hv⟩ := hM6.cell lnPage rfl
        obtain ⟨u, hc2, hfz2, _⟩ := hY6.cell lnPage rfl
        have ov : v.oneCell' = true := ((Kind.int .u32)).one hv v (by simp)
        simp -implicitDefEqProofs only [go_sem, ↓reduceIte, Nat.reduceEqDiff, Int.reduceLT, Nat.reduceLT, Int.reduceToNat, Int.reducePow, Nat.reduceAdd, Int.reduceEq, Nat.reduceLeDiff, Int.reduceLE, g1, g3, g4, g6, i0, i1, hcx, hc, hc2, hfz2, ov, en, beq_self_eq_true]
        refine done (Fx.set (m := only yb) _ _ _ rfl) (hY6.set lnPage (by omega) hv (by decide)) ?_ ?_ ?_ ?_ ?_
        all_goals simp -implicitDefEqProofs only [go_sem, ↓reduceIte, Nat.reduceEqDiff, Int.reduceLT, Nat.reduceLT, Int.reduceToNat, Int.reducePow, Nat.reduceAdd, Int.reduceEq, Nat.reduceLeDiff, Int.reduceLE, g1, g2, g3, g4]
      · have hcx : w6.cell? (ad.add i) = some (.string ⟨#[98, 121, 116, 101, 115]⟩) := hname
        obtain ⟨v, hc, hfz, hv⟩ := hM6.cell lnBytes rfl
        obtain ⟨u, hc2, hfz2, _⟩ := hY6.cell lnBytes rfl
        have ov : v.oneCell' = true := (kBytesM).one hv v (by simp)
        simp -implicitDefEqProofs only [go_sem, ↓reduceIte, Nat.reduceEqDiff, Int.reduceLT, Nat.reduceLT, Int.reduceToNat, Int.reducePow, Nat.reduceAdd, Int.reduceEq, Nat.reduceLeDiff, Int.reduceLE, g1, g3, g4, g6, i0, i1, hcx, hc, hc2, hfz2, ov, en, beq_self_eq_true]
        refine done (Fx.set (m := only yb) _ _ _ rfl) (hY6.set lnBytes (by omega) hv (by decide)) ?_ ?_ ?_ ?_ ?_
        all_goals simp -implicitDefEqProofs only [go_sem, ↓reduceIte, Nat.reduceEqDiff, Int.reduceLT, Nat.reduceLT, Int.reduceToNat, Int.reducePow, Nat.reduceAdd, Int.reduceEq, Nat.reduceLeDiff, Int.reduceLE, g1, g2, g3, g4]
      · have hcx : w6.cell? (ad.add i) = some (.string ⟨#[118, 101, 114, 115, 105, 111, 110]⟩) := hname
        obtain ⟨v, hc, hfz, hv⟩ := hM6.cell lnVersion rfl
        obtain ⟨u, hc2, hfz2, _⟩ := hY6.cell lnVersion rfl
        have ov : v.oneCell' = true := ((Kind.int .u64)).one hv v (by simp)
        simp -implicitDefEqProofs only [go_sem, ↓reduceIte, Nat.reduceEqDiff, Int.reduceLT, Nat.reduceLT, Int.reduceToNat, Int.reducePow, Nat.reduceAdd, Int.reduceEq, Nat.reduceLeDiff, Int.reduceLE, g1, g3, g4, g6, i0, i1, hcx, hc, hc2, hfz2, ov, en, beq_self_eq_true]
        refine done (Fx.set (m := only yb) _ _ _ rfl) (hY6.set lnVersion (by omega) hv (by decide)) ?_ ?_ ?_ ?_ ?_
        all_goals simp -implicitDefEqProofs only [go_sem, ↓reduceIte, Nat.reduceEqDiff, Int.reduceLT, Nat.reduceLT, Int.reduceToNat, Int.reducePow, Nat.reduceAdd, Int.reduceEq, Nat.reduceLeDiff, Int.reduceLE, g1, g2, g3, g4]
      · have hcx : w6.cell? (ad.add i) = some (.string ⟨#[110, 97, 109, 101, 115]⟩) := hname
        obtain ⟨v, hc, hfz, hv⟩ := hM6.cell lnNames rfl
        obtain ⟨u, hc2, hfz2, _⟩ := hY6.cell lnNames rfl
        have ov : v.oneCell' = true := (kTexts).one hv v (by simp)
        simp -implicitDefEqProofs only [go_sem, ↓reduceIte, Nat.reduceEqDiff, Int.reduceLT, Nat.reduceLT, Int.reduceToNat, Int.reducePow, Nat.reduceAdd, Int.reduceEq, Nat.reduceLeDiff, Int.reduceLE, g1, g3, g4, g6, i0, i1, hcx, hc, hc2, hfz2, ov, en, beq_self_eq_true]
        refine done (Fx.set (m := only yb) _ _ _ rfl) (hY6.set lnNames (by omega) hv (by decide)) ?_ ?_ ?_ ?_ ?_
        all_goals simp -implicitDefEqProofs only [go_sem, ↓reduceIte, Nat.reduceEqDiff, Int.reduceLT, Nat.reduceLT, Int.reduceToNat, Int.reducePow, Nat.reduceAdd, Int.reduceEq, Nat.reduceLeDiff, Int.reduceLE, g1, g2, g3, g4]
      · have hcx : w6.cell? (ad.add i) = some (.string ⟨#[105, 116, 101, 109, 115]⟩) := hname
        obtain ⟨v, hc, hfz, hv⟩ := hM6.cell lnItems rfl
        obtain ⟨u, hc2, hfz2, _⟩ := hY6.cell lnItems rfl
        have ov : v.oneCell' = true := (kItems).one hv v (by simp)
        simp -implicitDefEqProofs only [go_sem, ↓reduceIte, Nat.reduceEqDiff, Int.reduceLT, Nat.reduceLT, Int.reduceToNat, Int.reducePow, Nat.reduceAdd, Int.reduceEq, Nat.reduceLeDiff, Int.reduceLE, g1, g3, g4, g6, i0, i1, hcx, hc, hc2, hfz2, ov, en, beq_self_eq_true]
        refine done (Fx.set (m := only yb) _ _ _ rfl) (hY6.set lnItems (by omega) hv (by decide)) ?_ ?_ ?_ ?_ ?_
        all_goals simp -implicitDefEqProofs only [go_sem, ↓reduceIte, Nat.reduceEqDiff, Int.reduceLT, Nat.reduceLT, Int.reduceToNat, Int.reducePow, Nat.reduceAdd, Int.reduceEq, Nat.reduceLeDiff, Int.reduceLE, g1, g2, g3, g4]
      · have hcx : w6.cell? (ad.add i) = some (.string ⟨#[104, 105, 116, 115]⟩) := hname
        obtain ⟨v, hc, hfz, hv⟩ := hM6.cell lnHits rfl
        obtain ⟨u, hc2, hfz2, _⟩ := hY6.cell lnHits rfl
        have ov : v.oneCell' = true := (kHits).one hv v (by simp)
        simp -implicitDefEqProofs only [go_sem, ↓reduceIte, Nat.reduceEqDiff, Int.reduceLT, Nat.reduceLT, Int.reduceToNat, Int.reducePow, Nat.reduceAdd, Int.reduceEq, Nat.reduceLeDiff, Int.reduceLE, g1, g3, g4, g6, i0, i1, hcx, hc, hc2, hfz2, ov, en, beq_self_eq_true]
        refine done (Fx.set (m := only yb) _ _ _ rfl) (hY6.set lnHits (by omega) hv (by decide)) ?_ ?_ ?_ ?_ ?_
        all_goals simp -implicitDefEqProofs only [go_sem, ↓reduceIte, Nat.reduceEqDiff, Int.reduceLT, Nat.reduceLT, Int.reduceToNat, Int.reducePow, Nat.reduceAdd, Int.reduceEq, Nat.reduceLeDiff, Int.reduceLE, g1, g2, g3, g4]
    · have i1 : ¬ (i : Int) < (l.size : Int) := by omega
      have hz : (nums l).drop i = [] := List.drop_of_length_le (by rw [nums_len]; omega)
      rw [hz] at hcopy
      have hcopy : m = copyAll (nums l) x (zMsg x.kind) := hcopy
      obtain ⟨ds, ld, st, ld2, hr, kz⟩ := fin _ _ kk6 hb6 hY6
      rw [hcopy] at hr
      simp -implicitDefEqProofs only [go_sem, ↓reduceIte, Nat.reduceEqDiff, Int.reduceLT, Nat.reduceLT, Int.reduceToNat, Int.reducePow, Nat.reduceAdd, Int.reduceEq, Nat.reduceLeDiff, Int.reduceLE, g1, g2, g3, g4, g6, i1, ld, st, ld2]
      exact ⟨ds, rfl, hr, kz⟩
end Go.Proofs.Ytnoeeiaffnbhcaa.F
