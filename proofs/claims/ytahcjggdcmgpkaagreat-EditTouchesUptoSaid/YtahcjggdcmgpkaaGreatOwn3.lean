/-
  What each function comes to, by its body, by a program of this repo.
-/
import Derived.Test.YtahcjggdcmgpkaaGreatLib7
import Derived.Test.YtahcjggdcmgpkaaGreatOwn2
import Derived.Lib.Bytealg
import Derived.Test.YtahcjggdcmgpkaaGreatLib8
namespace Go.Proofs.YtahcjggdcmgpkaaGreat
open Go Go.Ab
set_option linter.unusedVariables false
theorem yg3 {r} (a0 a1):type_of% (evS (λn=>zbn n a0 a1) r λn=>zbn.eq_2 a0 a1 n):=evS _ _ λ_=>rfl
theorem zrs {r} (a0 a1 a2):type_of% (evS (λn=>z3s n a0 a1 a2) r λn=>z3s.eq_2 a0 a1 a2 n):=evS _ _ λ_=>rfl
theorem zsy {r} (a0 a1 a2):type_of% (evS (λn=>z71 n a0 a1 a2) r λn=>z71.eq_2 a0 a1 a2 n):=evS _ _ λ_=>rfl
theorem yc8 {r} (a0):type_of% (evS (λn=>z9f n a0) r λn=>z9f.eq_2 a0 n):=evS _ _ λ_=>rfl
theorem zlv {r} (a0 a1 a2):type_of% (evS (λn=>z6w n a0 a1 a2) r λn=>z6w.eq_2 a0 a1 a2 n):=evS _ _ λ_=>rfl
theorem zm8 {r} (a0 a1 a2 a3):type_of% (evS (λn=>z60 n a0 a1 a2 a3) r λn=>z60.eq_2 a0 a1 a2 a3 n):=evS _ _ λ_=>rfl
theorem zxk {r} (a0):type_of% (evS (λn=>ze4 n a0) r λn=>ze4.eq_2 a0 n):=evS _ _ λ_=>rfl
theorem yc4 {r} (a0 a1):type_of% (evS (λn=>zbo n a0 a1) r λn=>zbo.eq_2 a0 a1 n):=evS _ _ λ_=>rfl
theorem zs4 {r} (a0 a1 a2):type_of% (evS (λn=>z2f n a0 a1 a2) r λn=>z2f.eq_2 a0 a1 a2 n):=evS _ _ λ_=>rfl
theorem zsz {r} (a0 a1 a2):type_of% (evS (λn=>z6j n a0 a1 a2) r λn=>z6j.eq_2 a0 a1 a2 n):=evS _ _ λ_=>rfl
theorem ydp {r} (a0):type_of% (evS (λn=>z9e n a0) r λn=>z9e.eq_2 a0 n):=evS _ _ λ_=>rfl
theorem zt9 {r} (a0 a1 a2):type_of% (evS (λn=>z6n n a0 a1 a2) r λn=>z6n.eq_2 a0 a1 a2 n):=evS _ _ λ_=>rfl
theorem zy5 {r} (a0):type_of% (evS (λn=>z6h n a0) r λn=>z6h.eq_2 a0 n):=evS _ _ λ_=>rfl
theorem zjl {r} (a0):type_of% (evS (λn=>z03 n a0) r λn=>z03.eq_2 a0 n):=evS _ _ λ_=>rfl
theorem y2u {r} (a0):type_of% (evS (λn=>z8w n a0) r λn=>z8w.eq_2 a0 n):=evS _ _ λ_=>rfl
theorem znf {r} (a0 a1):type_of% (evS (λn=>z25 n a0 a1) r λn=>z25.eq_2 a0 a1 n):=evS _ _ λ_=>rfl
theorem znc {r} (a0 a1):type_of% (evS (λn=>z0z n a0 a1) r λn=>z0z.eq_2 a0 a1 n):=evS _ _ λ_=>rfl
theorem znh {r} (a0 a1 a2):type_of% (evS (λn=>z0x n a0 a1 a2) r λn=>z0x.eq_2 a0 a1 a2 n):=evS _ _ λ_=>rfl
theorem znj {r} (a0 a1 a2):type_of% (evS (λn=>z0w n a0 a1 a2) r λn=>z0w.eq_2 a0 a1 a2 n):=evS _ _ λ_=>rfl
theorem zng {r} (a0 a1 a2 a3):type_of% (evS (λn=>z1z n a0 a1 a2 a3) r λn=>z1z.eq_2 a0 a1 a2 a3 n):=evS _ _ λ_=>rfl
theorem yce {r} (a0):type_of% (evS (λn=>zc2 n a0) r λn=>zc2.eq_2 a0 n):=evS _ _ λ_=>rfl
theorem zt7 {r} (a0 a1):type_of% (evS (λn=>z77 n a0 a1) r λn=>z77.eq_2 a0 a1 n):=evS _ _ λ_=>rfl
theorem zrt {r} (a0 a1):type_of% (evS (λn=>z3y n a0 a1) r λn=>z3y.eq_2 a0 a1 n):=evS _ _ λ_=>rfl
theorem zth {r} (a0 a1 a2):type_of% (evS (λn=>z68 n a0 a1 a2) r λn=>z68.eq_2 a0 a1 a2 n):=evS _ _ λ_=>rfl
theorem zsl {r} (a0 a1):type_of% (evS (λn=>z3q n a0 a1) r λn=>z3q.eq_2 a0 a1 n):=evS _ _ λ_=>rfl
theorem ztf {r} (a0 a1 a2 a3):type_of% (evS (λn=>z3v n a0 a1 a2 a3) r λn=>z3v.eq_2 a0 a1 a2 a3 n):=evS _ _ λ_=>rfl
theorem zse {r} (a0 a1 a2 a3):type_of% (evS (λn=>z42 n a0 a1 a2 a3) r λn=>z42.eq_2 a0 a1 a2 a3 n):=evS _ _ λ_=>rfl
theorem zsc {r} (a0 a1 a2 a3):type_of% (evS (λn=>z3z n a0 a1 a2 a3) r λn=>z3z.eq_2 a0 a1 a2 a3 n):=evS _ _ λ_=>rfl
theorem yam {r} (a0):type_of% (evS (λn=>zcg n a0) r λn=>zcg.eq_2 a0 n):=evS _ _ λ_=>rfl
theorem zft {r} (a0):type_of% (evS (λn=>yzq n a0) r λn=>yzq.eq_2 a0 n):=evS _ _ λ_=>rfl
theorem zeh {r} (a0):type_of% (evS (λn=>zzg n a0) r λn=>zzg.eq_2 a0 n):=evS _ _ λ_=>rfl
theorem yii {r} (a0):type_of% (evS (λn=>zg1 n a0) r λn=>zg1.eq_2 a0 n):=evS _ _ λ_=>rfl
theorem ztv {r} (a0 a1):type_of% (evS (λn=>z8f n a0 a1) r λn=>z8f.eq_2 a0 a1 n):=evS _ _ λ_=>rfl
theorem zud {r} (a0 a1 a2):type_of% (evS (λn=>z5b n a0 a1 a2) r λn=>z5b.eq_2 a0 a1 a2 n):=evS _ _ λ_=>rfl
theorem zua {r} (a0 a1 a2 a3 a4):type_of% (evS (λn=>z7s n a0 a1 a2 a3 a4) r λn=>z7s.eq_2 a0 a1 a2 a3 a4 n):=evS _ _ λ_=>rfl
theorem zvm {r} (a0 a1 a2 a3 a4 a5):type_of% (evS (λn=>z58 n a0 a1 a2 a3 a4 a5) r λn=>z58.eq_2 a0 a1 a2 a3 a4 a5 n):=evS _ _ λ_=>rfl
theorem zu2 {r} (a0 a1 a2 a3 a4 a5 a6):type_of% (evS (λn=>z7x n a0 a1 a2 a3 a4 a5 a6) r λn=>z7x.eq_2 a0 a1 a2 a3 a4 a5 a6 n):=evS _ _ λ_=>rfl
theorem ykg {r} (a0):type_of% (evS (λn=>zdi n a0) r λn=>zdi.eq_2 a0 n):=evS _ _ λ_=>rfl
theorem zu6 {r} (a0 a1):type_of% (evS (λn=>zbh n a0 a1) r λn=>zbh.eq_2 a0 a1 n):=evS _ _ λ_=>rfl
theorem zvd {r} (a0 a1):type_of% (evS (λn=>z1o n a0 a1) r λn=>z1o.eq_2 a0 a1 n):=evS _ _ λ_=>rfl
theorem zun {r} (a0 a1 a2 a3 a4):type_of% (evS (λn=>z8z n a0 a1 a2 a3 a4) r λn=>z8z.eq_2 a0 a1 a2 a3 a4 n):=evS _ _ λ_=>rfl
theorem zuy {r} (a0 a1 a2):type_of% (evS (λn=>z16 n a0 a1 a2) r λn=>z16.eq_2 a0 a1 a2 n):=evS _ _ λ_=>rfl
theorem zf1 {r} (a0 a1):type_of% (evS (λn=>kzv n a0 a1) r λn=>kzv.eq_2 a0 a1 n):=evS _ _ λ_=>rfl
theorem zlt {r} (a0 a1):type_of% (evS (λn=>yzx n a0 a1) r λn=>yzx.eq_2 a0 a1 n):=evS _ _ λ_=>rfl
theorem ye9 {r} (a0):type_of% (evS (λn=>z4b n a0) r λn=>z4b.eq_2 a0 n):=evS _ _ λ_=>rfl
theorem y91 {r} (a0):type_of% (evS (λn=>zas n a0) r λn=>zas.eq_2 a0 n):=evS _ _ λ_=>rfl
theorem zrg {r} (a0 a1 a2 a3 a4):type_of% (evS (λn=>z54 n a0 a1 a2 a3 a4) r λn=>z54.eq_2 a0 a1 a2 a3 a4 n):=evS _ _ λ_=>rfl
theorem y0y {r} (a0):type_of% (evS (λn=>zg7 n a0) r λn=>zg7.eq_2 a0 n):=evS _ _ λ_=>rfl
theorem zuw {r} (a0 a1 a2):type_of% (evS (λn=>z0k n a0 a1 a2) r λn=>z0k.eq_2 a0 a1 a2 n):=evS _ _ λ_=>rfl
theorem zvb {r} (a0 a1 a2):type_of% (evS (λn=>z8r n a0 a1 a2) r λn=>z8r.eq_2 a0 a1 a2 n):=evS _ _ λ_=>rfl
theorem zu0 {r} (a0 a1 a2):type_of% (evS (λn=>z8q n a0 a1 a2) r λn=>z8q.eq_2 a0 a1 a2 n):=evS _ _ λ_=>rfl
theorem zug {r} (a0 a1 a2):type_of% (evS (λn=>zbi n a0 a1 a2) r λn=>zbi.eq_2 a0 a1 a2 n):=evS _ _ λ_=>rfl
theorem zv1 {r}:type_of% (evS (λn=>zbl n) r λn=>zbl.eq_2 n):=evS _ _ λ_=>rfl
theorem zux {r} (a0):type_of% (evS (λn=>z1u n a0) r λn=>z1u.eq_2 a0 n):=evS _ _ λ_=>rfl
theorem y5i {r} (a0):type_of% (evS (λn=>z81 n a0) r λn=>z81.eq_2 a0 n):=evS _ _ λ_=>rfl
theorem zp5 {r} (a0 a1 a2 a3 a4):type_of% (evS (λn=>z3o n a0 a1 a2 a3 a4) r λn=>z3o.eq_2 a0 a1 a2 a3 a4 n):=evS _ _ λ_=>rfl
theorem y0h {r} (a0 a1):type_of% (evS (λn=>z3g n a0 a1) r λn=>z3g.eq_2 a0 a1 n):=evS _ _ λ_=>rfl
theorem yl7 {r} (a0):type_of% (evS (λn=>zd8 n a0) r λn=>zd8.eq_2 a0 n):=evS _ _ λ_=>rfl
theorem yst {r} (a0 a1):type_of% (evS (λn=>zih n a0 a1) r λn=>zih.eq_2 a0 a1 n):=evS _ _ λ_=>rfl
theorem yb2 {r} (a0 a1):type_of% (evS (λn=>zar n a0 a1) r λn=>zar.eq_2 a0 a1 n):=evS _ _ λ_=>rfl
theorem ydk {r} (a0):type_of% (evS (λn=>ze9 n a0) r λn=>ze9.eq_2 a0 n):=evS _ _ λ_=>rfl
theorem y4v {r} (a0):type_of% (evS (λn=>z2e n a0) r λn=>z2e.eq_2 a0 n):=evS _ _ λ_=>rfl
theorem ykx {r} (a0):type_of% (evS (λn=>zdv n a0) r λn=>zdv.eq_2 a0 n):=evS _ _ λ_=>rfl
theorem zvx {r} (a0 a1 a2):type_of% (evS (λn=>z86 n a0 a1 a2) r λn=>z86.eq_2 a0 a1 a2 n):=evS _ _ λ_=>rfl
theorem zv5 {r} (a0 a1 a2 a3):type_of% (evS (λn=>z8h n a0 a1 a2 a3) r λn=>z8h.eq_2 a0 a1 a2 a3 n):=evS _ _ λ_=>rfl
theorem zvp {r} (a0 a1 a2 a3):type_of% (evS (λn=>z8l n a0 a1 a2 a3) r λn=>z8l.eq_2 a0 a1 a2 a3 n):=evS _ _ λ_=>rfl
theorem y7f {r} (a0):type_of% (evS (λn=>z3a n a0) r λn=>z3a.eq_2 a0 n):=evS _ _ λ_=>rfl
theorem yg9 {r} (a0):type_of% (evS (λn=>ze0 n a0) r λn=>ze0.eq_2 a0 n):=evS _ _ λ_=>rfl
theorem y57 {r} (a0 a1):type_of% (evS (λn=>z64 n a0 a1) r λn=>z64.eq_2 a0 a1 n):=evS _ _ λ_=>rfl
theorem yhh {r} (a0):type_of% (evS (λn=>zg6 n a0) r λn=>zg6.eq_2 a0 n):=evS _ _ λ_=>rfl
theorem yif {r} (a0 a1):type_of% (evS (λn=>z4a n a0 a1) r λn=>z4a.eq_2 a0 a1 n):=evS _ _ λ_=>rfl
theorem zuo {r} (a0 a1 a2):type_of% (evS (λn=>z1r n a0 a1 a2) r λn=>z1r.eq_2 a0 a1 a2 n):=evS _ _ λ_=>rfl
theorem zv9 {r} (a0 a1 a2 a3):type_of% (evS (λn=>z89 n a0 a1 a2 a3) r λn=>z89.eq_2 a0 a1 a2 a3 n):=evS _ _ λ_=>rfl
theorem yq0 {r} (a0):type_of% (evS (λn=>zfa n a0) r λn=>zfa.eq_2 a0 n):=evS _ _ λ_=>rfl
theorem y8z {r} (a0 a1):type_of% (evS (λn=>z7h n a0 a1) r λn=>z7h.eq_2 a0 a1 n):=evS _ _ λ_=>rfl
theorem y8x {r} (a0 a1):type_of% (evS (λn=>z7f n a0 a1) r λn=>z7f.eq_2 a0 a1 n):=evS _ _ λ_=>rfl
theorem y9x {r} (a0 a1):type_of% (evS (λn=>za2 n a0 a1) r λn=>za2.eq_2 a0 a1 n):=evS _ _ λ_=>rfl
theorem yaj {r} (a0 a1):type_of% (evS (λn=>zac n a0 a1) r λn=>zac.eq_2 a0 a1 n):=evS _ _ λ_=>rfl
theorem y9k {r} (a0):type_of% (evS (λn=>z7i n a0) r λn=>z7i.eq_2 a0 n):=evS _ _ λ_=>rfl
theorem zeu {r} (a0):type_of% (evS (λn=>zzh n a0) r λn=>zzh.eq_2 a0 n):=evS _ _ λ_=>rfl
theorem zgh {r} (a0):type_of% (evS (λn=>yzj n a0) r λn=>yzj.eq_2 a0 n):=evS _ _ λ_=>rfl
theorem z19 {r} (a0 a1 a2):type_of% (evS (λn=>yzc n a0 a1 a2) r λn=>yzc.eq_2 a0 a1 a2 n):=evS _ _ λ_=>rfl
theorem ydg {r} (a0):type_of% (evS (λn=>zep n a0) r λn=>zep.eq_2 a0 n):=evS _ _ λ_=>rfl
theorem yhr {r} (a0):type_of% (evS (λn=>z4d n a0) r λn=>z4d.eq_2 a0 n):=evS _ _ λ_=>rfl
theorem y6i {r} (a0 a1):type_of% (evS (λn=>z8v n a0 a1) r λn=>z8v.eq_2 a0 a1 n):=evS _ _ λ_=>rfl
theorem y59 {r} (a0):type_of% (evS (λn=>z9l n a0) r λn=>z9l.eq_2 a0 n):=evS _ _ λ_=>rfl
theorem zj1 {r} (a0):type_of% (evS (λn=>yzz n a0) r λn=>yzz.eq_2 a0 n):=evS _ _ λ_=>rfl
theorem zgr {r} (a0):type_of% (evS (λn=>kzm n a0) r λn=>kzm.eq_2 a0 n):=evS _ _ λ_=>rfl
theorem yio {r} (a0):type_of% (evS (λn=>zdg n a0) r λn=>zdg.eq_2 a0 n):=evS _ _ λ_=>rfl
theorem yt7 {r} (a0):type_of% (evS (λn=>zd0 n a0) r λn=>zd0.eq_2 a0 n):=evS _ _ λ_=>rfl
theorem y93 {r} (a0 a1):type_of% (evS (λn=>zal n a0 a1) r λn=>zal.eq_2 a0 a1 n):=evS _ _ λ_=>rfl
theorem yao {r} (a0):type_of% (evS (λn=>zaq n a0) r λn=>zaq.eq_2 a0 n):=evS _ _ λ_=>rfl
theorem y0p {r} (a0):type_of% (evS (λn=>z7b n a0) r λn=>z7b.eq_2 a0 n):=evS _ _ λ_=>rfl
theorem zwq {r} (a0 a1):type_of% (evS (λn=>z1g n a0 a1) r λn=>z1g.eq_2 a0 a1 n):=evS _ _ λ_=>rfl
theorem zwn {r} (a0 a1 a2 a3):type_of% (evS (λn=>z1h n a0 a1 a2 a3) r λn=>z1h.eq_2 a0 a1 a2 a3 n):=evS _ _ λ_=>rfl
theorem zwx {r} (a0 a1 a2):type_of% (evS (λn=>z1e n a0 a1 a2) r λn=>z1e.eq_2 a0 a1 a2 n):=evS _ _ λ_=>rfl
theorem zmh {r} (a0 a1 a2):type_of% (evS (λn=>z0n n a0 a1 a2) r λn=>z0n.eq_2 a0 a1 a2 n):=evS _ _ λ_=>rfl
theorem zm1 {r} (a0 a1 a2):type_of% (evS (λn=>z0l n a0 a1 a2) r λn=>z0l.eq_2 a0 a1 a2 n):=evS _ _ λ_=>rfl
theorem zme {r} (a0 a1):type_of% (evS (λn=>kzz n a0 a1) r λn=>kzz.eq_2 a0 a1 n):=evS _ _ λ_=>rfl
theorem zmx {r} (a0 a1 a2):type_of% (evS (λn=>z0o n a0 a1 a2) r λn=>z0o.eq_2 a0 a1 a2 n):=evS _ _ λ_=>rfl
theorem zm6 {r} (a0 a1 a2 a3):type_of% (evS (λn=>zzu n a0 a1 a2 a3) r λn=>zzu.eq_2 a0 a1 a2 a3 n):=evS _ _ λ_=>rfl
theorem y98 {r} (a0):type_of% (evS (λn=>zcf n a0) r λn=>zcf.eq_2 a0 n):=evS _ _ λ_=>rfl
theorem zrc {r} (a0 a1 a2 a3):type_of% (evS (λn=>z2q n a0 a1 a2 a3) r λn=>z2q.eq_2 a0 a1 a2 a3 n):=evS _ _ λ_=>rfl
theorem zqt {r} (a0 a1 a2 a3 a4):type_of% (evS (λn=>z4o n a0 a1 a2 a3 a4) r λn=>z4o.eq_2 a0 a1 a2 a3 a4 n):=evS _ _ λ_=>rfl
theorem zq7 {r} (a0 a1 a2):type_of% (evS (λn=>z2l n a0 a1 a2) r λn=>z2l.eq_2 a0 a1 a2 n):=evS _ _ λ_=>rfl
theorem zqm {r} (a0 a1 a2 a3 a4):type_of% (evS (λn=>z4k n a0 a1 a2 a3 a4) r λn=>z4k.eq_2 a0 a1 a2 a3 a4 n):=evS _ _ λ_=>rfl
theorem zqy {r} (a0 a1 a2 a3 a4 a5):type_of% (evS (λn=>z2x n a0 a1 a2 a3 a4 a5) r λn=>z2x.eq_2 a0 a1 a2 a3 a4 a5 n):=evS _ _ λ_=>rfl
theorem zqa {r} (a0 a1 a2 a3 a4 a5 a6 a7):type_of% (evS (λn=>z30 n a0 a1 a2 a3 a4 a5 a6 a7) r λn=>z30.eq_2 a0 a1 a2 a3 a4 a5 a6 a7 n):=evS _ _ λ_=>rfl
theorem zrd {r} (a0 a1 a2 a3 a4 a5 a6 a7 a8):type_of% (evS (λn=>z2u n a0 a1 a2 a3 a4 a5 a6 a7 a8) r λn=>z2u.eq_2 a0 a1 a2 a3 a4 a5 a6 a7 a8 n):=evS _ _ λ_=>rfl
theorem zmw {r} (a0 a1):type_of% (evS (λn=>zzw n a0 a1) r λn=>zzw.eq_2 a0 a1 n):=evS _ _ λ_=>rfl
theorem z4e {r} (a0 a1 a2 a3):type_of% (evS (λn=>yzl n a0 a1 a2 a3) r λn=>yzl.eq_2 a0 a1 a2 a3 n):=evS _ _ λ_=>rfl
theorem zjq {r} (a0 a1):type_of% (evS (λn=>zzr n a0 a1) r λn=>zzr.eq_2 a0 a1 n):=evS _ _ λ_=>rfl
theorem yj9 {r} (a0 a1):type_of% (evS (λn=>zd4 n a0 a1) r λn=>zd4.eq_2 a0 a1 n):=evS _ _ λ_=>rfl
theorem zv4 {r} (a0 a1 a2):type_of% (evS (λn=>zbk n a0 a1 a2) r λn=>zbk.eq_2 a0 a1 a2 n):=evS _ _ λ_=>rfl
theorem y7n {r} (a0 a1):type_of% (evS (λn=>z8i n a0 a1) r λn=>z8i.eq_2 a0 a1 n):=evS _ _ λ_=>rfl
theorem zv2 {r} (a0 a1 a2 a3):type_of% (evS (λn=>z8t n a0 a1 a2 a3) r λn=>z8t.eq_2 a0 a1 a2 a3 n):=evS _ _ λ_=>rfl
theorem yi3 {r} (a0):type_of% (evS (λn=>zdh n a0) r λn=>zdh.eq_2 a0 n):=evS _ _ λ_=>rfl
theorem y9o {r} (a0 a1 a2):type_of% (evS (λn=>zc7 n a0 a1 a2) r λn=>zc7.eq_2 a0 a1 a2 n):=evS _ _ λ_=>rfl
theorem zj3 {r} (a0 a1 a2):type_of% (evS (λn=>kzy n a0 a1 a2) r λn=>kzy.eq_2 a0 a1 a2 n):=evS _ _ λ_=>rfl
theorem z2h {r} (a0 a1 a2 a3 a4):type_of% (evS (λn=>yzf n a0 a1 a2 a3 a4) r λn=>yzf.eq_2 a0 a1 a2 a3 a4 n):=evS _ _ λ_=>rfl
theorem zh0 {r} (a0 a1 a2):type_of% (evS (λn=>yzn n a0 a1 a2) r λn=>yzn.eq_2 a0 a1 a2 n):=evS _ _ λ_=>rfl
theorem yk5 {r} (a0 a1 a2):type_of% (evS (λn=>zd6 n a0 a1 a2) r λn=>zd6.eq_2 a0 a1 a2 n):=evS _ _ λ_=>rfl
theorem ybo {r} (a0):type_of% (evS (λn=>zdy n a0) r λn=>zdy.eq_2 a0 n):=evS _ _ λ_=>rfl
theorem zrz {r} (a0 a1 a2 a3):type_of% (evS (λn=>z6s n a0 a1 a2 a3) r λn=>z6s.eq_2 a0 a1 a2 a3 n):=evS _ _ λ_=>rfl
theorem ztd {r} (a0 a1 a2 a3 a4 a5 a6):type_of% (evS (λn=>z6k n a0 a1 a2 a3 a4 a5 a6) r λn=>z6k.eq_2 a0 a1 a2 a3 a4 a5 a6 n):=evS _ _ λ_=>rfl
theorem zrw {r} (a0 a1 a2 a3 a4 a5 a6 a7 a8 a9):type_of% (evS (λn=>z61 n a0 a1 a2 a3 a4 a5 a6 a7 a8 a9) r λn=>z61.eq_2 a0 a1 a2 a3 a4 a5 a6 a7 a8 a9 n):=evS _ _ λ_=>rfl
theorem y6w {r} (a0 a1 a2):type_of% (evS (λn=>zbg n a0 a1 a2) r λn=>zbg.eq_2 a0 a1 a2 n):=evS _ _ λ_=>rfl
theorem zio {r} (a0 a1 a2):type_of% (evS (λn=>yzw n a0 a1 a2) r λn=>yzw.eq_2 a0 a1 a2 n):=evS _ _ λ_=>rfl
theorem z2a {r} (a0 a1 a2 a3 a4):type_of% (evS (λn=>kze n a0 a1 a2 a3 a4) r λn=>kze.eq_2 a0 a1 a2 a3 a4 n):=evS _ _ λ_=>rfl
theorem zgj {r} (a0 a1 a2):type_of% (evS (λn=>kzj n a0 a1 a2) r λn=>kzj.eq_2 a0 a1 a2 n):=evS _ _ λ_=>rfl
theorem yff {r} (a0):type_of% (evS (λn=>zbt n a0) r λn=>zbt.eq_2 a0 n):=evS _ _ λ_=>rfl
theorem zt3 {r} (a0 a1 a2 a3):type_of% (evS (λn=>z6c n a0 a1 a2 a3) r λn=>z6c.eq_2 a0 a1 a2 a3 n):=evS _ _ λ_=>rfl
theorem zsi {r} (a0 a1 a2 a3 a4 a5 a6):type_of% (evS (λn=>z3t n a0 a1 a2 a3 a4 a5 a6) r λn=>z3t.eq_2 a0 a1 a2 a3 a4 a5 a6 n):=evS _ _ λ_=>rfl
theorem y3s {r} (a0 a1 a2 a3 a4 a5 a6 a7):type_of% (evS (λn=>z63 n a0 a1 a2 a3 a4 a5 a6 a7) r λn=>z63.eq_2 a0 a1 a2 a3 a4 a5 a6 a7 n):=evS _ _ λ_=>rfl
theorem zs5 {r} (a0 a1 a2 a3 a4 a5 a6 a7 a8 a9):type_of% (evS (λn=>z79 n a0 a1 a2 a3 a4 a5 a6 a7 a8 a9) r λn=>z79.eq_2 a0 a1 a2 a3 a4 a5 a6 a7 a8 a9 n):=evS _ _ λ_=>rfl
theorem ycp {r} (a0):type_of% (evS (λn=>z9d n a0) r λn=>z9d.eq_2 a0 n):=evS _ _ λ_=>rfl
theorem zt4 {r} (a0 a1 a2 a3 a4 a5 a6 a7 a8):type_of% (evS (λn=>z6v n a0 a1 a2 a3 a4 a5 a6 a7 a8) r λn=>z6v.eq_2 a0 a1 a2 a3 a4 a5 a6 a7 a8 n):=evS _ _ λ_=>rfl
theorem y38 {r} (a0 a1 a2 a3 a4 a5 a6 a7 a8 a9):type_of% (evS (λn=>z5z n a0 a1 a2 a3 a4 a5 a6 a7 a8 a9) r λn=>z5z.eq_2 a0 a1 a2 a3 a4 a5 a6 a7 a8 a9 n):=evS _ _ λ_=>rfl
theorem zt1 {r} (a0 a1 a2 a3 a4 a5 a6 a7 a8):type_of% (evS (λn=>z73 n a0 a1 a2 a3 a4 a5 a6 a7 a8) r λn=>z73.eq_2 a0 a1 a2 a3 a4 a5 a6 a7 a8 n):=evS _ _ λ_=>rfl
theorem zsx {r} (a0 a1 a2 a3 a4 a5 a6 a7 a8 a9 a10 a11 a12):type_of% (evS (λn=>z6b n a0 a1 a2 a3 a4 a5 a6 a7 a8 a9 a10 a11 a12) r λn=>z6b.eq_2 a0 a1 a2 a3 a4 a5 a6 a7 a8 a9 a10 a11 a12 n):=evS _ _ λ_=>rfl
theorem zsq {r} (a0 a1 a2 a3 a4 a5 a6 a7 a8 a9 a10 a11 a12 a13):type_of% (evS (λn=>z6t n a0 a1 a2 a3 a4 a5 a6 a7 a8 a9 a10 a11 a12 a13) r λn=>z6t.eq_2 a0 a1 a2 a3 a4 a5 a6 a7 a8 a9 a10 a11 a12 a13 n):=evS _ _ λ_=>rfl
theorem zsh {r} (a0 a1 a2 a3 a4 a5 a6 a7 a8 a9):type_of% (evS (λn=>z3r n a0 a1 a2 a3 a4 a5 a6 a7 a8 a9) r λn=>z3r.eq_2 a0 a1 a2 a3 a4 a5 a6 a7 a8 a9 n):=evS _ _ λ_=>rfl
theorem zrx {r} (a0 a1 a2 a3 a4 a5 a6 a7 a8 a9 a10 a11 a12 a13 a14):type_of% (evS (λn=>z5x n a0 a1 a2 a3 a4 a5 a6 a7 a8 a9 a10 a11 a12 a13 a14) r λn=>z5x.eq_2 a0 a1 a2 a3 a4 a5 a6 a7 a8 a9 a10 a11 a12 a13 a14 n):=evS _ _ λ_=>rfl
theorem zsb {r} (a0 a1 a2 a3 a4 a5 a6 a7 a8 a9 a10 a11 a12 a13 a14 a15):type_of% (evS (λn=>z3x n a0 a1 a2 a3 a4 a5 a6 a7 a8 a9 a10 a11 a12 a13 a14 a15) r λn=>z3x.eq_2 a0 a1 a2 a3 a4 a5 a6 a7 a8 a9 a10 a11 a12 a13 a14 a15 n):=evS _ _ λ_=>rfl
theorem y3r {r} (a0 a1 a2 a3 a4 a5 a6 a7 a8 a9 a10):type_of% (evS (λn=>z69 n a0 a1 a2 a3 a4 a5 a6 a7 a8 a9 a10) r λn=>z69.eq_2 a0 a1 a2 a3 a4 a5 a6 a7 a8 a9 a10 n):=evS _ _ λ_=>rfl
theorem zrr {r} (a0 a1 a2 a3 a4 a5 a6 a7 a8 a9 a10 a11 a12):type_of% (evS (λn=>z6f n a0 a1 a2 a3 a4 a5 a6 a7 a8 a9 a10 a11 a12) r λn=>z6f.eq_2 a0 a1 a2 a3 a4 a5 a6 a7 a8 a9 a10 a11 a12 n):=evS _ _ λ_=>rfl
theorem y1q {r} (a0 a1 a2 a3 a4 a5 a6 a7 a8 a9 a10 a11 a12 a13 a14 a15):type_of% (evS (λn=>z4l n a0 a1 a2 a3 a4 a5 a6 a7 a8 a9 a10 a11 a12 a13 a14 a15) r λn=>z4l.eq_2 a0 a1 a2 a3 a4 a5 a6 a7 a8 a9 a10 a11 a12 a13 a14 a15 n):=evS _ _ λ_=>rfl
theorem y2c {r} (a0 a1 a2 a3 a4 a5 a6 a7 a8 a9 a10 a11 a12):type_of% (evS (λn=>z2v n a0 a1 a2 a3 a4 a5 a6 a7 a8 a9 a10 a11 a12) r λn=>z2v.eq_2 a0 a1 a2 a3 a4 a5 a6 a7 a8 a9 a10 a11 a12 n):=evS _ _ λ_=>rfl
theorem ynr {r} (a0 a1):type_of% (evS (λn=>zcp n a0 a1) r λn=>zcp.eq_2 a0 a1 n):=evS _ _ λ_=>rfl
theorem yb4 {r} (a0):type_of% (evS (λn=>z9v n a0) r λn=>z9v.eq_2 a0 n):=evS _ _ λ_=>rfl
theorem zr0 {r} (a0 a1 a2 a3 a4):type_of% (evS (λn=>z4w n a0 a1 a2 a3 a4) r λn=>z4w.eq_2 a0 a1 a2 a3 a4 n):=evS _ _ λ_=>rfl
theorem zkr {r} (a0):type_of% (evS (λn=>yzs n a0) r λn=>yzs.eq_2 a0 n):=evS _ _ λ_=>rfl
theorem z35 {r} (a0 a1 a2 a3 a4):type_of% (evS (λn=>kzo n a0 a1 a2 a3 a4) r λn=>kzo.eq_2 a0 a1 a2 a3 a4 n):=evS _ _ λ_=>rfl
theorem z9o {r} (a0 a1 a2 a3 a4):type_of% (evS (λn=>kzw n a0 a1 a2 a3 a4) r λn=>kzw.eq_2 a0 a1 a2 a3 a4 n):=evS _ _ λ_=>rfl
theorem z3c {r} (a0 a1 a2 a3):type_of% (evS (λn=>yzh n a0 a1 a2 a3) r λn=>yzh.eq_2 a0 a1 a2 a3 n):=evS _ _ λ_=>rfl
theorem ynw {r} (a0 a1):type_of% (evS (λn=>z4f n a0 a1) r λn=>z4f.eq_2 a0 a1 n):=evS _ _ λ_=>rfl
theorem ydj {r} (a0 a1 a2):type_of% (evS (λn=>zef n a0 a1 a2) r λn=>zef.eq_2 a0 a1 a2 n):=evS _ _ λ_=>rfl
theorem zje {r} (a0 a1 a2):type_of% (evS (λn=>zzz n a0 a1 a2) r λn=>zzz.eq_2 a0 a1 a2 n):=evS _ _ λ_=>rfl
theorem z2i {r} (a0 a1 a2 a3 a4):type_of% (evS (λn=>kzf n a0 a1 a2 a3 a4) r λn=>kzf.eq_2 a0 a1 a2 a3 a4 n):=evS _ _ λ_=>rfl
theorem zh2 {r} (a0 a1 a2):type_of% (evS (λn=>yzm n a0 a1 a2) r λn=>yzm.eq_2 a0 a1 a2 n):=evS _ _ λ_=>rfl
theorem yri {r} (a0 a1 a2):type_of% (evS (λn=>zcm n a0 a1 a2) r λn=>zcm.eq_2 a0 a1 a2 n):=evS _ _ λ_=>rfl
theorem yh2 {r} (a0 a1):type_of% (evS (λn=>zd5 n a0 a1) r λn=>zd5.eq_2 a0 a1 n):=evS _ _ λ_=>rfl
theorem zv7 {r} (a0 a1 a2 a3 a4 a5 a6 a7):type_of% (evS (λn=>z7r n a0 a1 a2 a3 a4 a5 a6 a7) r λn=>z7r.eq_2 a0 a1 a2 a3 a4 a5 a6 a7 n):=evS _ _ λ_=>rfl
theorem znn {r} (a0 a1 a2 a3 a4 a5 a6 a7 a8 a9 a10 a11):type_of% (evS (λn=>z3e n a0 a1 a2 a3 a4 a5 a6 a7 a8 a9 a10 a11) r λn=>z3e.eq_2 a0 a1 a2 a3 a4 a5 a6 a7 a8 a9 a10 a11 n):=evS _ _ λ_=>rfl
theorem zu3 {r} (a0 a1 a2 a3 a4 a5 a6 a7 a8 a9 a10 a11 a12 a13):type_of% (evS (λn=>z36 n a0 a1 a2 a3 a4 a5 a6 a7 a8 a9 a10 a11 a12 a13) r λn=>z36.eq_2 a0 a1 a2 a3 a4 a5 a6 a7 a8 a9 a10 a11 a12 a13 n):=evS _ _ λ_=>rfl
theorem y6d {r} (a0 a1 a2 a3 a4 a5 a6 a7 a8 a9 a10 a11):type_of% (evS (λn=>z7p n a0 a1 a2 a3 a4 a5 a6 a7 a8 a9 a10 a11) r λn=>z7p.eq_2 a0 a1 a2 a3 a4 a5 a6 a7 a8 a9 a10 a11 n):=evS _ _ λ_=>rfl
theorem y1i {r} (a0 a1):type_of% (evS (λn=>zdb n a0 a1) r λn=>zdb.eq_2 a0 a1 n):=evS _ _ λ_=>rfl
theorem yh0 {r} (a0):type_of% (evS (λn=>zg0 n a0) r λn=>zg0.eq_2 a0 n):=evS _ _ λ_=>rfl
theorem zvu {r} (a0 a1):type_of% (evS (λn=>z8p n a0 a1) r λn=>z8p.eq_2 a0 a1 n):=evS _ _ λ_=>rfl
theorem zvy {r} (a0 a1):type_of% (evS (λn=>z5g n a0 a1) r λn=>z5g.eq_2 a0 a1 n):=evS _ _ λ_=>rfl
theorem zuf {r} (a0 a1 a2 a3):type_of% (evS (λn=>z8e n a0 a1 a2 a3) r λn=>z8e.eq_2 a0 a1 a2 a3 n):=evS _ _ λ_=>rfl
theorem ztz {r} (a0 a1 a2 a3):type_of% (evS (λn=>z5d n a0 a1 a2 a3) r λn=>z5d.eq_2 a0 a1 a2 a3 n):=evS _ _ λ_=>rfl
theorem zvc {r} (a0 a1 a2 a3 a4):type_of% (evS (λn=>z57 n a0 a1 a2 a3 a4) r λn=>z57.eq_2 a0 a1 a2 a3 a4 n):=evS _ _ λ_=>rfl
theorem y95 {r} (a0):type_of% (evS (λn=>zci n a0) r λn=>zci.eq_2 a0 n):=evS _ _ λ_=>rfl
theorem ydc {r} (a0):type_of% (evS (λn=>zea n a0) r λn=>zea.eq_2 a0 n):=evS _ _ λ_=>rfl
theorem yit {r} (a0):type_of% (evS (λn=>zd3 n a0) r λn=>zd3.eq_2 a0 n):=evS _ _ λ_=>rfl
theorem zuu {r} (a0 a1):type_of% (evS (λn=>z13 n a0 a1) r λn=>z13.eq_2 a0 a1 n):=evS _ _ λ_=>rfl
theorem zvh {r} (a0 a1 a2):type_of% (evS (λn=>z1s n a0 a1 a2) r λn=>z1s.eq_2 a0 a1 a2 n):=evS _ _ λ_=>rfl
theorem y96 {r} (a0):type_of% (evS (λn=>zcj n a0) r λn=>zcj.eq_2 a0 n):=evS _ _ λ_=>rfl
theorem yic {r} (a0):type_of% (evS (λn=>z5o n a0) r λn=>z5o.eq_2 a0 n):=evS _ _ λ_=>rfl
theorem yji {r} (a0):type_of% (evS (λn=>zdc n a0) r λn=>zdc.eq_2 a0 n):=evS _ _ λ_=>rfl
theorem ztx {r} (a0 a1 a2):type_of% (evS (λn=>z8o n a0 a1 a2) r λn=>z8o.eq_2 a0 a1 a2 n):=evS _ _ λ_=>rfl
theorem y15 {r} (a0):type_of% (evS (λn=>zg8 n a0) r λn=>zg8.eq_2 a0 n):=evS _ _ λ_=>rfl
theorem zuc {r} (a0 a1):type_of% (evS (λn=>zbj n a0 a1) r λn=>zbj.eq_2 a0 a1 n):=evS _ _ λ_=>rfl
theorem zu5 {r} (a0 a1):type_of% (evS (λn=>z0i n a0 a1) r λn=>z0i.eq_2 a0 a1 n):=evS _ _ λ_=>rfl
theorem zvj {r} (a0 a1):type_of% (evS (λn=>z82 n a0 a1) r λn=>z82.eq_2 a0 a1 n):=evS _ _ λ_=>rfl
theorem yix {r} (a0):type_of% (evS (λn=>zdr n a0) r λn=>zdr.eq_2 a0 n):=evS _ _ λ_=>rfl
theorem znt {r} (a0 a1 a2):type_of% (evS (λn=>z84 n a0 a1 a2) r λn=>z84.eq_2 a0 a1 a2 n):=evS _ _ λ_=>rfl
theorem znv {r} (a0 a1 a2 a3):type_of% (evS (λn=>z8j n a0 a1 a2 a3) r λn=>z8j.eq_2 a0 a1 a2 a3 n):=evS _ _ λ_=>rfl
theorem yai {r} (a0 a1):type_of% (evS (λn=>zce n a0 a1) r λn=>zce.eq_2 a0 a1 n):=evS _ _ λ_=>rfl
theorem y1p {r} (a0 a1):type_of% (evS (λn=>z4s n a0 a1) r λn=>z4s.eq_2 a0 a1 n):=evS _ _ λ_=>rfl
theorem yg4 {r} (a0):type_of% (evS (λn=>zes n a0) r λn=>zes.eq_2 a0 n):=evS _ _ λ_=>rfl
theorem y5a {r} (a0):type_of% (evS (λn=>z17 n a0) r λn=>z17.eq_2 a0 n):=evS _ _ λ_=>rfl
theorem yia {r} (a0):type_of% (evS (λn=>zd7 n a0) r λn=>zd7.eq_2 a0 n):=evS _ _ λ_=>rfl
theorem zv3 {r} (a0 a1):type_of% (evS (λn=>z1p n a0 a1) r λn=>z1p.eq_2 a0 a1 n):=evS _ _ λ_=>rfl
theorem zvs {r} (a0 a1):type_of% (evS (λn=>z7m n a0 a1) r λn=>z7m.eq_2 a0 a1 n):=evS _ _ λ_=>rfl
theorem zw0 {r} (a0 a1 a2):type_of% (evS (λn=>z7n n a0 a1 a2) r λn=>z7n.eq_2 a0 a1 a2 n):=evS _ _ λ_=>rfl
theorem zum {r} (a0 a1):type_of% (evS (λn=>z3d n a0 a1) r λn=>z3d.eq_2 a0 a1 n):=evS _ _ λ_=>rfl
theorem zvv {r} (a0 a1):type_of% (evS (λn=>z8g n a0 a1) r λn=>z8g.eq_2 a0 a1 n):=evS _ _ λ_=>rfl
theorem yg8 {r} (a0):type_of% (evS (λn=>zdz n a0) r λn=>zdz.eq_2 a0 n):=evS _ _ λ_=>rfl
theorem y3t {r} (a0 a1):type_of% (evS (λn=>z74 n a0 a1) r λn=>z74.eq_2 a0 a1 n):=evS _ _ λ_=>rfl
theorem yl4 {r} (a0 a1):type_of% (evS (λn=>z45 n a0 a1) r λn=>z45.eq_2 a0 a1 n):=evS _ _ λ_=>rfl
theorem zve {r} (a0 a1 a2):type_of% (evS (λn=>z1q n a0 a1 a2) r λn=>z1q.eq_2 a0 a1 a2 n):=evS _ _ λ_=>rfl
theorem ztw {r} (a0 a1 a2):type_of% (evS (λn=>z8s n a0 a1 a2) r λn=>z8s.eq_2 a0 a1 a2 n):=evS _ _ λ_=>rfl
theorem yf6 {r} (a0):type_of% (evS (λn=>ze2 n a0) r λn=>ze2.eq_2 a0 n):=evS _ _ λ_=>rfl
theorem yk7 {r} (a0):type_of% (evS (λn=>zdd n a0) r λn=>zdd.eq_2 a0 n):=evS _ _ λ_=>rfl
theorem y65 {r} (a0 a1):type_of% (evS (λn=>z5c n a0 a1) r λn=>z5c.eq_2 a0 a1 n):=evS _ _ λ_=>rfl
theorem y6n {r} (a0 a1):type_of% (evS (λn=>z14 n a0 a1) r λn=>z14.eq_2 a0 a1 n):=evS _ _ λ_=>rfl
theorem y5n {r} (a0 a1):type_of% (evS (λn=>z1t n a0 a1) r λn=>z1t.eq_2 a0 a1 n):=evS _ _ λ_=>rfl
theorem zu4 {r} (a0 a1):type_of% (evS (λn=>z8b n a0 a1) r λn=>z8b.eq_2 a0 a1 n):=evS _ _ λ_=>rfl
theorem yfa {r} (a0):type_of% (evS (λn=>z32 n a0) r λn=>z32.eq_2 a0 n):=evS _ _ λ_=>rfl
theorem y45 {r} (a0 a1):type_of% (evS (λn=>z6a n a0 a1) r λn=>z6a.eq_2 a0 a1 n):=evS _ _ λ_=>rfl
theorem ys5 {r} (a0):type_of% (evS (λn=>zf4 n a0) r λn=>zf4.eq_2 a0 n):=evS _ _ λ_=>rfl
theorem ya2 {r} (a0 a1):type_of% (evS (λn=>z9w n a0 a1) r λn=>z9w.eq_2 a0 a1 n):=evS _ _ λ_=>rfl
theorem y9q {r} (a0):type_of% (evS (λn=>zap n a0) r λn=>zap.eq_2 a0 n):=evS _ _ λ_=>rfl
theorem yb1 {r} (a0):type_of% (evS (λn=>zca n a0) r λn=>zca.eq_2 a0 n):=evS _ _ λ_=>rfl
theorem zpz {r} (a0 a1):type_of% (evS (λn=>z1k n a0 a1) r λn=>z1k.eq_2 a0 a1 n):=evS _ _ λ_=>rfl
theorem y28 {r} (a0 a1):type_of% (evS (λn=>z4i n a0 a1) r λn=>z4i.eq_2 a0 a1 n):=evS _ _ λ_=>rfl
theorem y24 {r} (a0):type_of% (evS (λn=>z4q n a0) r λn=>z4q.eq_2 a0 n):=evS _ _ λ_=>rfl
theorem zks {r} (a0 a1):type_of% (evS (λn=>z8u n a0 a1) r λn=>z8u.eq_2 a0 a1 n):=evS _ _ λ_=>rfl
theorem zqd {r} (a0 a1):type_of% (evS (λn=>z0a n a0 a1) r λn=>z0a.eq_2 a0 a1 n):=evS _ _ λ_=>rfl
theorem y1x {r} (a0):type_of% (evS (λn=>z4j n a0) r λn=>z4j.eq_2 a0 n):=evS _ _ λ_=>rfl
theorem zpy {r} (a0 a1):type_of% (evS (λn=>z2k n a0 a1) r λn=>z2k.eq_2 a0 a1 n):=evS _ _ λ_=>rfl
theorem zr1 {r} (a0 a1 a2):type_of% (evS (λn=>z0r n a0 a1 a2) r λn=>z0r.eq_2 a0 a1 a2 n):=evS _ _ λ_=>rfl
theorem y9v {r} (a0):type_of% (evS (λn=>zc9 n a0) r λn=>zc9.eq_2 a0 n):=evS _ _ λ_=>rfl
theorem zqr {r} (a0 a1):type_of% (evS (λn=>z2y n a0 a1) r λn=>z2y.eq_2 a0 a1 n):=evS _ _ λ_=>rfl
theorem zrf {r} (a0 a1 a2):type_of% (evS (λn=>z4n n a0 a1 a2) r λn=>z4n.eq_2 a0 a1 a2 n):=evS _ _ λ_=>rfl
theorem zqq {r} (a0 a1):type_of% (evS (λn=>z2z n a0 a1) r λn=>z2z.eq_2 a0 a1 n):=evS _ _ λ_=>rfl
theorem zqs {r} (a0 a1 a2 a3):type_of% (evS (λn=>z2w n a0 a1 a2 a3) r λn=>z2w.eq_2 a0 a1 a2 a3 n):=evS _ _ λ_=>rfl
theorem zq4 {r} (a0 a1 a2 a3):type_of% (evS (λn=>z2m n a0 a1 a2 a3) r λn=>z2m.eq_2 a0 a1 a2 a3 n):=evS _ _ λ_=>rfl
theorem zqk {r} (a0 a1 a2 a3 a4 a5):type_of% (evS (λn=>z2r n a0 a1 a2 a3 a4 a5) r λn=>z2r.eq_2 a0 a1 a2 a3 a4 a5 n):=evS _ _ λ_=>rfl
theorem zr2 {r} (a0 a1 a2 a3 a4 a5):type_of% (evS (λn=>z2o n a0 a1 a2 a3 a4 a5) r λn=>z2o.eq_2 a0 a1 a2 a3 a4 a5 n):=evS _ _ λ_=>rfl
theorem yg5 {r} (a0):type_of% (evS (λn=>z5w n a0) r λn=>z5w.eq_2 a0 n):=evS _ _ λ_=>rfl
theorem zrk {r} (a0 a1 a2):type_of% (evS (λn=>z65 n a0 a1 a2) r λn=>z65.eq_2 a0 a1 a2 n):=evS _ _ λ_=>rfl
theorem yv4 {r} (a0 a1):type_of% (evS (λn=>z44 n a0 a1) r λn=>z44.eq_2 a0 a1 n):=evS _ _ λ_=>rfl
theorem ybx {r} (a0):type_of% (evS (λn=>zbz n a0) r λn=>zbz.eq_2 a0 n):=evS _ _ λ_=>rfl
theorem zrq {r} (a0 a1):type_of% (evS (λn=>z5v n a0 a1) r λn=>z5v.eq_2 a0 a1 n):=evS _ _ λ_=>rfl
theorem ydq {r} (a0):type_of% (evS (λn=>z11 n a0) r λn=>z11.eq_2 a0 n):=evS _ _ λ_=>rfl
theorem zsn {r} (a0 a1 a2):type_of% (evS (λn=>z5p n a0 a1 a2) r λn=>z5p.eq_2 a0 a1 a2 n):=evS _ _ λ_=>rfl
theorem ye8 {r} (a0 a1):type_of% (evS (λn=>z47 n a0 a1) r λn=>z47.eq_2 a0 a1 n):=evS _ _ λ_=>rfl
theorem y4p {r} (a0):type_of% (evS (λn=>z9q n a0) r λn=>z9q.eq_2 a0 n):=evS _ _ λ_=>rfl
theorem zoj {r} (a0 a1):type_of% (evS (λn=>z2t n a0 a1) r λn=>z2t.eq_2 a0 a1 n):=evS _ _ λ_=>rfl
theorem y6c {r} (a0):type_of% (evS (λn=>zbf n a0) r λn=>zbf.eq_2 a0 n):=evS _ _ λ_=>rfl
theorem zpc {r} (a0 a1):type_of% (evS (λn=>z3h n a0 a1) r λn=>z3h.eq_2 a0 a1 n):=evS _ _ λ_=>rfl
theorem zp2 {r} (a0 a1):type_of% (evS (λn=>z1x n a0 a1) r λn=>z1x.eq_2 a0 a1 n):=evS _ _ λ_=>rfl
theorem ylb {r} (a0 a1):type_of% (evS (λn=>zdu n a0 a1) r λn=>zdu.eq_2 a0 a1 n):=evS _ _ λ_=>rfl
theorem zv0 {r} (a0 a1 a2):type_of% (evS (λn=>z56 n a0 a1 a2) r λn=>z56.eq_2 a0 a1 a2 n):=evS _ _ λ_=>rfl
theorem zvz {r} (a0 a1 a2 a3):type_of% (evS (λn=>z8n n a0 a1 a2 a3) r λn=>z8n.eq_2 a0 a1 a2 a3 n):=evS _ _ λ_=>rfl
theorem zuh {r} (a0 a1 a2 a3):type_of% (evS (λn=>z8y n a0 a1 a2 a3) r λn=>z8y.eq_2 a0 a1 a2 a3 n):=evS _ _ λ_=>rfl
theorem y6m {r} (a0 a1):type_of% (evS (λn=>z5f n a0 a1) r λn=>z5f.eq_2 a0 a1 n):=evS _ _ λ_=>rfl
theorem zv6 {r} (a0 a1 a2):type_of% (evS (λn=>z8m n a0 a1 a2) r λn=>z8m.eq_2 a0 a1 a2 n):=evS _ _ λ_=>rfl
theorem yf2 {r} (a0):type_of% (evS (λn=>zbu n a0) r λn=>zbu.eq_2 a0 n):=evS _ _ λ_=>rfl
theorem ya7 {r} (a0 a1):type_of% (evS (λn=>z9z n a0 a1) r λn=>z9z.eq_2 a0 a1 n):=evS _ _ λ_=>rfl
theorem zr6 {r} (a0 a1 a2):type_of% (evS (λn=>z4u n a0 a1 a2) r λn=>z4u.eq_2 a0 a1 a2 n):=evS _ _ λ_=>rfl
theorem ydd {r} (a0):type_of% (evS (λn=>ze3 n a0) r λn=>ze3.eq_2 a0 n):=evS _ _ λ_=>rfl
theorem zsw {r} (a0 a1 a2):type_of% (evS (λn=>z67 n a0 a1 a2) r λn=>z67.eq_2 a0 a1 a2 n):=evS _ _ λ_=>rfl
theorem zst {r} (a0 a1 a2 a3):type_of% (evS (λn=>z5u n a0 a1 a2 a3) r λn=>z5u.eq_2 a0 a1 a2 a3 n):=evS _ _ λ_=>rfl
theorem ylx {r} (a0):type_of% (evS (λn=>zbc n a0) r λn=>zbc.eq_2 a0 n):=evS _ _ λ_=>rfl
theorem zu8 {r} (a0 a1 a2):type_of% (evS (λn=>z7o n a0 a1 a2) r λn=>z7o.eq_2 a0 a1 a2 n):=evS _ _ λ_=>rfl
theorem zu9 {r} (a0 a1 a2 a3):type_of% (evS (λn=>z55 n a0 a1 a2 a3) r λn=>z55.eq_2 a0 a1 a2 a3 n):=evS _ _ λ_=>rfl
theorem zuq {r} (a0 a1 a2 a3 a4 a5):type_of% (evS (λn=>z7t n a0 a1 a2 a3 a4 a5) r λn=>z7t.eq_2 a0 a1 a2 a3 a4 a5 n):=evS _ _ λ_=>rfl
theorem y6r {r} (a0 a1 a2 a3 a4):type_of% (evS (λn=>z83 n a0 a1 a2 a3 a4) r λn=>z83.eq_2 a0 a1 a2 a3 a4 n):=evS _ _ λ_=>rfl
theorem zvo {r} (a0 a1 a2 a3 a4 a5):type_of% (evS (λn=>z80 n a0 a1 a2 a3 a4 a5) r λn=>z80.eq_2 a0 a1 a2 a3 a4 a5 n):=evS _ _ λ_=>rfl
theorem ybt {r} (a0):type_of% (evS (λn=>zel n a0) r λn=>zel.eq_2 a0 n):=evS _ _ λ_=>rfl
theorem zrl {r} (a0 a1 a2):type_of% (evS (λn=>z6p n a0 a1 a2) r λn=>z6p.eq_2 a0 a1 a2 n):=evS _ _ λ_=>rfl
theorem zsk {r} (a0 a1 a2):type_of% (evS (λn=>z3w n a0 a1 a2) r λn=>z3w.eq_2 a0 a1 a2 n):=evS _ _ λ_=>rfl
theorem zt6 {r} (a0 a1 a2 a3 a4 a5):type_of% (evS (λn=>z3u n a0 a1 a2 a3 a4 a5) r λn=>z3u.eq_2 a0 a1 a2 a3 a4 a5 n):=evS _ _ λ_=>rfl
theorem zsa {r} (a0 a1 a2 a3 a4 a5 a6 a7):type_of% (evS (λn=>z6i n a0 a1 a2 a3 a4 a5 a6 a7) r λn=>z6i.eq_2 a0 a1 a2 a3 a4 a5 a6 a7 n):=evS _ _ λ_=>rfl
theorem zso {r} (a0 a1 a2 a3 a4):type_of% (evS (λn=>z43 n a0 a1 a2 a3 a4) r λn=>z43.eq_2 a0 a1 a2 a3 a4 n):=evS _ _ λ_=>rfl
theorem yer {r} (a0):type_of% (evS (λn=>z4c n a0) r λn=>z4c.eq_2 a0 n):=evS _ _ λ_=>rfl
theorem zru {r} (a0 a1):type_of% (evS (λn=>z6o n a0 a1) r λn=>z6o.eq_2 a0 a1 n):=evS _ _ λ_=>rfl
theorem zss {r} (a0 a1 a2 a3):type_of% (evS (λn=>z6g n a0 a1 a2 a3) r λn=>z6g.eq_2 a0 a1 a2 a3 n):=evS _ _ λ_=>rfl
theorem yij {r} (a0 a1):type_of% (evS (λn=>z48 n a0 a1) r λn=>z48.eq_2 a0 a1 n):=evS _ _ λ_=>rfl
theorem ymd {r} (a0 a1):type_of% (evS (λn=>zdl n a0 a1) r λn=>zdl.eq_2 a0 a1 n):=evS _ _ λ_=>rfl
theorem yiw {r} (a0 a1):type_of% (evS (λn=>z5n n a0 a1) r λn=>z5n.eq_2 a0 a1 n):=evS _ _ λ_=>rfl
theorem zvn {r} (a0 a1 a2):type_of% (evS (λn=>z38 n a0 a1 a2) r λn=>z38.eq_2 a0 a1 a2 n):=evS _ _ λ_=>rfl
theorem zul {r} (a0 a1 a2):type_of% (evS (λn=>z7w n a0 a1 a2) r λn=>z7w.eq_2 a0 a1 a2 n):=evS _ _ λ_=>rfl
theorem ykn {r} (a0 a1):type_of% (evS (λn=>z95 n a0 a1) r λn=>z95.eq_2 a0 a1 n):=evS _ _ λ_=>rfl
theorem zuk {r} (a0 a1 a2):type_of% (evS (λn=>z7q n a0 a1 a2) r λn=>z7q.eq_2 a0 a1 a2 n):=evS _ _ λ_=>rfl
theorem ys3 {r} (a0 a1):type_of% (evS (λn=>zcs n a0 a1) r λn=>zcs.eq_2 a0 a1 n):=evS _ _ λ_=>rfl
theorem zwy {r} (a0 a1 a2):type_of% (evS (λn=>z7g n a0 a1 a2) r λn=>z7g.eq_2 a0 a1 a2 n):=evS _ _ λ_=>rfl
theorem zx3 {r} (a0 a1 a2 a3):type_of% (evS (λn=>zab n a0 a1 a2 a3) r λn=>zab.eq_2 a0 a1 a2 a3 n):=evS _ _ λ_=>rfl
theorem zx4 {r} (a0 a1 a2 a3):type_of% (evS (λn=>za9 n a0 a1 a2 a3) r λn=>za9.eq_2 a0 a1 a2 a3 n):=evS _ _ λ_=>rfl
theorem ydr {r} (a0 a1):type_of% (evS (λn=>zbs n a0 a1) r λn=>zbs.eq_2 a0 a1 n):=evS _ _ λ_=>rfl
theorem zs0 {r} (a0 a1 a2 a3):type_of% (evS (λn=>z6q n a0 a1 a2 a3) r λn=>z6q.eq_2 a0 a1 a2 a3 n):=evS _ _ λ_=>rfl
theorem zt0 {r} (a0 a1 a2 a3 a4 a5):type_of% (evS (λn=>z41 n a0 a1 a2 a3 a4 a5) r λn=>z41.eq_2 a0 a1 a2 a3 a4 a5 n):=evS _ _ λ_=>rfl
theorem zs7 {r} (a0 a1 a2 a3 a4 a5 a6):type_of% (evS (λn=>z2g n a0 a1 a2 a3 a4 a5 a6) r λn=>z2g.eq_2 a0 a1 a2 a3 a4 a5 a6 n):=evS _ _ λ_=>rfl
theorem zrm {r} (a0 a1 a2 a3 a4 a5):type_of% (evS (λn=>z9m n a0 a1 a2 a3 a4 a5) r λn=>z9m.eq_2 a0 a1 a2 a3 a4 a5 n):=evS _ _ λ_=>rfl
theorem zxo {r} (a0 a1):type_of% (evS (λn=>zbm n a0 a1) r λn=>zbm.eq_2 a0 a1 n):=evS _ _ λ_=>rfl
theorem zl2 {r} (a0):type_of% (evS (λn=>kzs n a0) r λn=>kzs.eq_2 a0 n):=evS _ _ λ_=>rfl
theorem z3b {r} (a0 a1 a2 a3 a4):type_of% (evS (λn=>zzo n a0 a1 a2 a3 a4) r λn=>zzo.eq_2 a0 a1 a2 a3 a4 n):=evS _ _ λ_=>rfl
theorem z9r {r} (a0 a1 a2 a3 a4):type_of% (evS (λn=>zzx n a0 a1 a2 a3 a4) r λn=>zzx.eq_2 a0 a1 a2 a3 a4 n):=evS _ _ λ_=>rfl
theorem z3f {r} (a0 a1 a2 a3):type_of% (evS (λn=>kzh n a0 a1 a2 a3) r λn=>kzh.eq_2 a0 a1 a2 a3 n):=evS _ _ λ_=>rfl
theorem yc1 {r} (a0 a1):type_of% (evS (λn=>zeb n a0 a1) r λn=>zeb.eq_2 a0 a1 n):=evS _ _ λ_=>rfl
theorem zil {r} (a0 a1):type_of% (evS (λn=>yzo n a0 a1) r λn=>yzo.eq_2 a0 a1 n):=evS _ _ λ_=>rfl
theorem z1y {r} (a0 a1 a2 a3):type_of% (evS (λn=>zzf n a0 a1 a2 a3) r λn=>zzf.eq_2 a0 a1 a2 a3 n):=evS _ _ λ_=>rfl
theorem yqy {r} (a0 a1):type_of% (evS (λn=>zfn n a0 a1) r λn=>zfn.eq_2 a0 a1 n):=evS _ _ λ_=>rfl
theorem yaz {r} (a0 a1):type_of% (evS (λn=>za3 n a0 a1) r λn=>za3.eq_2 a0 a1 n):=evS _ _ λ_=>rfl
theorem y4i {r} (a0 a1):type_of% (evS (λn=>z6y n a0 a1) r λn=>z6y.eq_2 a0 a1 n):=evS _ _ λ_=>rfl
theorem y20 {r} (a0 a1):type_of% (evS (λn=>z50 n a0 a1) r λn=>z50.eq_2 a0 a1 n):=evS _ _ λ_=>rfl
theorem zy3 {r} (a0 a1):type_of% (evS (λn=>z2p n a0 a1) r λn=>z2p.eq_2 a0 a1 n):=evS _ _ λ_=>rfl
theorem y29 {r} (a0 a1):type_of% (evS (λn=>z4y n a0 a1) r λn=>z4y.eq_2 a0 a1 n):=evS _ _ λ_=>rfl
theorem yb5 {r} (a0 a1):type_of% (evS (λn=>z9u n a0 a1) r λn=>z9u.eq_2 a0 a1 n):=evS _ _ λ_=>rfl
theorem yka {r} (a0 a1):type_of% (evS (λn=>zdf n a0 a1) r λn=>zdf.eq_2 a0 a1 n):=evS _ _ λ_=>rfl
theorem y55 {r} (a0 a1 a2):type_of% (evS (λn=>z9p n a0 a1 a2) r λn=>z9p.eq_2 a0 a1 a2 n):=evS _ _ λ_=>rfl
theorem zgd {r} (a0 a1 a2):type_of% (evS (λn=>yzr n a0 a1 a2) r λn=>yzr.eq_2 a0 a1 a2 n):=evS _ _ λ_=>rfl
theorem z1a {r} (a0 a1 a2 a3 a4):type_of% (evS (λn=>kzc n a0 a1 a2 a3 a4) r λn=>kzc.eq_2 a0 a1 a2 a3 a4 n):=evS _ _ λ_=>rfl
theorem zev {r} (a0 a1 a2):type_of% (evS (λn=>kzg n a0 a1 a2) r λn=>kzg.eq_2 a0 a1 a2 n):=evS _ _ λ_=>rfl
theorem y99 {r} (a0 a1 a2):type_of% (evS (λn=>zch n a0 a1 a2) r λn=>zch.eq_2 a0 a1 a2 n):=evS _ _ λ_=>rfl
theorem zq9 {r} (a0 a1 a2 a3 a4):type_of% (evS (λn=>z4m n a0 a1 a2 a3 a4) r λn=>z4m.eq_2 a0 a1 a2 a3 a4 n):=evS _ _ λ_=>rfl
theorem zqp {r} (a0 a1 a2 a3 a4 a5 a6 a7):type_of% (evS (λn=>z4v n a0 a1 a2 a3 a4 a5 a6 a7) r λn=>z4v.eq_2 a0 a1 a2 a3 a4 a5 a6 a7 n):=evS _ _ λ_=>rfl
theorem zr5 {r} (a0 a1 a2 a3 a4 a5 a6 a7 a8 a9 a10 a11):type_of% (evS (λn=>z52 n a0 a1 a2 a3 a4 a5 a6 a7 a8 a9 a10 a11) r λn=>z52.eq_2 a0 a1 a2 a3 a4 a5 a6 a7 a8 a9 a10 a11 n):=evS _ _ λ_=>rfl
theorem y92 {r} (a0 a1):type_of% (evS (λn=>za0 n a0 a1) r λn=>za0.eq_2 a0 a1 n):=evS _ _ λ_=>rfl
theorem zqe {r} (a0 a1 a2 a3 a4 a5 a6 a7 a8):type_of% (evS (λn=>z4x n a0 a1 a2 a3 a4 a5 a6 a7 a8) r λn=>z4x.eq_2 a0 a1 a2 a3 a4 a5 a6 a7 a8 n):=evS _ _ λ_=>rfl
theorem zre {r} (a0 a1 a2 a3 a4 a5 a6 a7 a8 a9 a10):type_of% (evS (λn=>z1i n a0 a1 a2 a3 a4 a5 a6 a7 a8 a9 a10) r λn=>z1i.eq_2 a0 a1 a2 a3 a4 a5 a6 a7 a8 a9 a10 n):=evS _ _ λ_=>rfl
theorem zqz {r} (a0 a1 a2 a3 a4 a5 a6 a7 a8):type_of% (evS (λn=>z7y n a0 a1 a2 a3 a4 a5 a6 a7 a8) r λn=>z7y.eq_2 a0 a1 a2 a3 a4 a5 a6 a7 a8 n):=evS _ _ λ_=>rfl
theorem zx0 {r} (a0 a1):type_of% (evS (λn=>zan n a0 a1) r λn=>zan.eq_2 a0 a1 n):=evS _ _ λ_=>rfl
theorem yib {r} (a0 a1):type_of% (evS (λn=>zdn n a0 a1) r λn=>zdn.eq_2 a0 a1 n):=evS _ _ λ_=>rfl
theorem y2e {r} (a0 a1):type_of% (evS (λn=>z4t n a0 a1) r λn=>z4t.eq_2 a0 a1 n):=evS _ _ λ_=>rfl
theorem zyw {r} (a0 a1):type_of% (evS (λn=>z5e n a0 a1) r λn=>z5e.eq_2 a0 a1 n):=evS _ _ λ_=>rfl
theorem zla {r} (a0 a1 a2):type_of% (evS (λn=>kzq n a0 a1 a2) r λn=>kzq.eq_2 a0 a1 a2 n):=evS _ _ λ_=>rfl
theorem zl4 {r} (a0 a1 a2):type_of% (evS (λn=>z15 n a0 a1 a2) r λn=>z15.eq_2 a0 a1 a2 n):=evS _ _ λ_=>rfl
theorem zlg {r} (a0 a1 a2 a3):type_of% (evS (λn=>z0b n a0 a1 a2 a3) r λn=>z0b.eq_2 a0 a1 a2 a3 n):=evS _ _ λ_=>rfl
theorem y2p {r} (a0 a1):type_of% (evS (λn=>z8k n a0 a1) r λn=>z8k.eq_2 a0 a1 n):=evS _ _ λ_=>rfl
theorem znk {r} (a0 a1 a2):type_of% (evS (λn=>z0v n a0 a1 a2) r λn=>z0v.eq_2 a0 a1 a2 n):=evS _ _ λ_=>rfl
theorem zni {r} (a0 a1 a2):type_of% (evS (λn=>z2b n a0 a1 a2) r λn=>z2b.eq_2 a0 a1 a2 n):=evS _ _ λ_=>rfl
theorem y30 {r} (a0 a1):type_of% (evS (λn=>z7z n a0 a1) r λn=>z7z.eq_2 a0 a1 n):=evS _ _ λ_=>rfl
theorem znb {r} (a0 a1 a2):type_of% (evS (λn=>z0y n a0 a1 a2) r λn=>z0y.eq_2 a0 a1 a2 n):=evS _ _ λ_=>rfl
theorem zn9 {r} (a0 a1 a2):type_of% (evS (λn=>z2c n a0 a1 a2) r λn=>z2c.eq_2 a0 a1 a2 n):=evS _ _ λ_=>rfl
theorem zna {r} (a0 a1 a2):type_of% (evS (λn=>z29 n a0 a1 a2) r λn=>z29.eq_2 a0 a1 a2 n):=evS _ _ λ_=>rfl
theorem y7q {r} (a0 a1):type_of% (evS (λn=>zbe n a0 a1) r λn=>zbe.eq_2 a0 a1 n):=evS _ _ λ_=>rfl
theorem zpa {r} (a0 a1 a2):type_of% (evS (λn=>z3p n a0 a1 a2) r λn=>z3p.eq_2 a0 a1 a2 n):=evS _ _ λ_=>rfl
theorem zp8 {r} (a0 a1 a2 a3):type_of% (evS (λn=>z3i n a0 a1 a2 a3) r λn=>z3i.eq_2 a0 a1 a2 a3 n):=evS _ _ λ_=>rfl
theorem zp7 {r} (a0 a1 a2 a3 a4 a5):type_of% (evS (λn=>z3n n a0 a1 a2 a3 a4 a5) r λn=>z3n.eq_2 a0 a1 a2 a3 a4 a5 n):=evS _ _ λ_=>rfl
theorem y6o {r} (a0 a1):type_of% (evS (λn=>z88 n a0 a1) r λn=>z88.eq_2 a0 a1 n):=evS _ _ λ_=>rfl
theorem zp3 {r} (a0 a1 a2 a3 a4 a5):type_of% (evS (λn=>z3l n a0 a1 a2 a3 a4 a5) r λn=>z3l.eq_2 a0 a1 a2 a3 a4 a5 n):=evS _ _ λ_=>rfl
theorem zp1 {r} (a0 a1 a2 a3 a4 a5 a6):type_of% (evS (λn=>z10 n a0 a1 a2 a3 a4 a5 a6) r λn=>z10.eq_2 a0 a1 a2 a3 a4 a5 a6 n):=evS _ _ λ_=>rfl
theorem zp9 {r} (a0 a1 a2 a3 a4 a5):type_of% (evS (λn=>z7a n a0 a1 a2 a3 a4 a5) r λn=>z7a.eq_2 a0 a1 a2 a3 a4 a5 n):=evS _ _ λ_=>rfl
theorem zus {r} (a0 a1):type_of% (evS (λn=>z8x n a0 a1) r λn=>z8x.eq_2 a0 a1 n):=evS _ _ λ_=>rfl
theorem yko {r} (a0 a1):type_of% (evS (λn=>zg3 n a0 a1) r λn=>zg3.eq_2 a0 a1 n):=evS _ _ λ_=>rfl
theorem zg9 {r} (a0 a1):type_of% (evS (λn=>zzj n a0 a1) r λn=>zzj.eq_2 a0 a1 n):=evS _ _ λ_=>rfl
theorem z1b {r} (a0 a1 a2 a3):type_of% (evS (λn=>zzc n a0 a1 a2 a3) r λn=>zzc.eq_2 a0 a1 a2 a3 n):=evS _ _ λ_=>rfl
theorem yw2 {r} (a0 a1):type_of% (evS (λn=>zia n a0 a1) r λn=>zia.eq_2 a0 a1 n):=evS _ _ λ_=>rfl
theorem ygh {r} (a0 a1):type_of% (evS (λn=>zbq n a0 a1) r λn=>zbq.eq_2 a0 a1 n):=evS _ _ λ_=>rfl
theorem zmk {r} (a0 a1 a2 a3 a4):type_of% (evS (λn=>z5q n a0 a1 a2 a3 a4) r λn=>z5q.eq_2 a0 a1 a2 a3 a4 n):=evS _ _ λ_=>rfl
theorem zlz {r} (a0 a1 a2 a3 a4 a5 a6 a7):type_of% (evS (λn=>z5r n a0 a1 a2 a3 a4 a5 a6 a7) r λn=>z5r.eq_2 a0 a1 a2 a3 a4 a5 a6 a7 n):=evS _ _ λ_=>rfl
theorem zsr {r} (a0 a1 a2 a3 a4 a5 a6 a7):type_of% (evS (λn=>z9n n a0 a1 a2 a3 a4 a5 a6 a7) r λn=>z9n.eq_2 a0 a1 a2 a3 a4 a5 a6 a7 n):=evS _ _ λ_=>rfl
theorem y2f {r} (a0 a1 a2):type_of% (evS (λn=>z7v n a0 a1 a2) r λn=>z7v.eq_2 a0 a1 a2 n):=evS _ _ λ_=>rfl
theorem zlh {r} (a0 a1 a2):type_of% (evS (λn=>z0g n a0 a1 a2) r λn=>z0g.eq_2 a0 a1 a2 n):=evS _ _ λ_=>rfl
theorem z3j {r} (a0 a1 a2 a3 a4):type_of% (evS (λn=>zzi n a0 a1 a2 a3 a4) r λn=>zzi.eq_2 a0 a1 a2 a3 a4 n):=evS _ _ λ_=>rfl
theorem zj8 {r} (a0 a1 a2):type_of% (evS (λn=>kzp n a0 a1 a2) r λn=>kzp.eq_2 a0 a1 a2 n):=evS _ _ λ_=>rfl
theorem zvk {r} (a0 a1):type_of% (evS (λn=>z8a n a0 a1) r λn=>z8a.eq_2 a0 a1 n):=evS _ _ λ_=>rfl
theorem zpb {r} (a0 a1 a2 a3 a4 a5 a6 a7):type_of% (evS (λn=>z1w n a0 a1 a2 a3 a4 a5 a6 a7) r λn=>z1w.eq_2 a0 a1 a2 a3 a4 a5 a6 a7 n):=evS _ _ λ_=>rfl
theorem zp4 {r} (a0 a1 a2 a3 a4 a5 a6 a7):type_of% (evS (λn=>z7c n a0 a1 a2 a3 a4 a5 a6 a7) r λn=>z7c.eq_2 a0 a1 a2 a3 a4 a5 a6 a7 n):=evS _ _ λ_=>rfl
theorem ya8 {r} (a0 a1):type_of% (evS (λn=>zak n a0 a1) r λn=>zak.eq_2 a0 a1 n):=evS _ _ λ_=>rfl
theorem zq3 {r} (a0 a1 a2):type_of% (evS (λn=>z2n n a0 a1 a2) r λn=>z2n.eq_2 a0 a1 a2 n):=evS _ _ λ_=>rfl
theorem zr4 {r} (a0 a1 a2 a3):type_of% (evS (λn=>z4z n a0 a1 a2 a3) r λn=>z4z.eq_2 a0 a1 a2 a3 n):=evS _ _ λ_=>rfl
theorem zqg {r} (a0 a1 a2 a3):type_of% (evS (λn=>z4p n a0 a1 a2 a3) r λn=>z4p.eq_2 a0 a1 a2 a3 n):=evS _ _ λ_=>rfl
theorem yfk {r} (a0 a1):type_of% (evS (λn=>zbw n a0 a1) r λn=>zbw.eq_2 a0 a1 n):=evS _ _ λ_=>rfl
theorem zrv {r} (a0 a1 a2):type_of% (evS (λn=>z5y n a0 a1 a2) r λn=>z5y.eq_2 a0 a1 a2 n):=evS _ _ λ_=>rfl
theorem zlw {r} (a0 a1 a2 a3):type_of% (evS (λn=>z62 n a0 a1 a2 a3) r λn=>z62.eq_2 a0 a1 a2 a3 n):=evS _ _ λ_=>rfl
theorem zmi {r} (a0 a1 a2 a3 a4 a5):type_of% (evS (λn=>z66 n a0 a1 a2 a3 a4 a5) r λn=>z66.eq_2 a0 a1 a2 a3 a4 a5 n):=evS _ _ λ_=>rfl
theorem zsg {r} (a0 a1 a2 a3 a4 a5):type_of% (evS (λn=>z9s n a0 a1 a2 a3 a4 a5) r λn=>z9s.eq_2 a0 a1 a2 a3 a4 a5 n):=evS _ _ λ_=>rfl
theorem y4u {r} (a0 a1 a2 a3):type_of% (evS (λn=>z5t n a0 a1 a2 a3) r λn=>z5t.eq_2 a0 a1 a2 a3 n):=evS _ _ λ_=>rfl
theorem zrp {r} (a0 a1):type_of% (evS (λn=>z6l n a0 a1) r λn=>z6l.eq_2 a0 a1 n):=evS _ _ λ_=>rfl
theorem zo3 {r} (a0 a1 a2 a3 a4):type_of% (evS (λn=>z1d n a0 a1 a2 a3 a4) r λn=>z1d.eq_2 a0 a1 a2 a3 a4 n):=evS _ _ λ_=>rfl
theorem zoi {r} (a0 a1 a2 a3 a4 a5 a6):type_of% (evS (λn=>z2s n a0 a1 a2 a3 a4 a5 a6) r λn=>z2s.eq_2 a0 a1 a2 a3 a4 a5 a6 n):=evS _ _ λ_=>rfl
theorem zom {r} (a0 a1 a2 a3 a4 a5 a6):type_of% (evS (λn=>z5h n a0 a1 a2 a3 a4 a5 a6) r λn=>z5h.eq_2 a0 a1 a2 a3 a4 a5 a6 n):=evS _ _ λ_=>rfl
theorem yhj {r} (a0 a1):type_of% (evS (λn=>z96 n a0 a1) r λn=>z96.eq_2 a0 a1 n):=evS _ _ λ_=>rfl
theorem zut {r} (a0 a1 a2):type_of% (evS (λn=>z8c n a0 a1 a2) r λn=>z8c.eq_2 a0 a1 a2 n):=evS _ _ λ_=>rfl
theorem zpe {r} (a0 a1):type_of% (evS (λn=>z00 n a0 a1) r λn=>z00.eq_2 a0 a1 n):=evS _ _ λ_=>rfl
theorem zeg {r} (a0 a1 a2):type_of% (evS (λn=>zzs n a0 a1 a2) r λn=>zzs.eq_2 a0 a1 a2 n):=evS _ _ λ_=>rfl
end Go.Proofs.YtahcjggdcmgpkaaGreat
namespace Go.Proofs.YtahcjggdcmgpkaaGreat
open Go Go.Ab
set_option linter.unusedVariables false
theorem z1j {α:Type} {x y:List α} (h:x.length+y.length<=268435456):ext x y=some (x++y):=by unfold ext;rw [if_pos (by simpa [zne] using h)]
set_option linter.unusedSimpArgs false
def I64 (x:Int):Prop := -9223372036854775808<=x∧x<=9223372036854775807
theorem yfw {x:Int} (h:I64 x):Ev (λn=>zd8 n x) (x.natAbs:Int):=by
 unfold I64 at h
 rw [yl7]
 simp only [Ev.pif,Ev.kz0,decide_eq_true_eq]
 split
 ·rw [wUn (x:=x) (by omega),wUn (by omega)];omega
 ·rw [wU (by omega)];omega
theorem yy2:∀(b a:Nat),Ev (λn=>zar n (b:Int) (a:Int)) (Nat.gcd a b:Int):=by
 intro b
 induction b using Nat.strongRecOn with
 |ind b ih =>
  intro a
  rw [yb2]
  by_cases hb:b=0
  · subst hb
    simp [Ev.pif,Ev.kz0]
  · have hm:rem .u64 (a:Int) (b:Int)=some ((a % b:Nat):Int):=by
     unfold rem;rw [if_neg (by omega),Int.tmod_eq_emod_of_nonneg (by omega)];simp
    rw [Ev.yz1 (by simpa using hb),Ev.kz2 hm]
    have:=ih (a % b) (Nat.mod_lt _ (by omega)) b
    rw [Nat.gcd_comm a b,Nat.gcd_rec b a,Nat.gcd_comm]
    exact this
theorem z036 {a b:Nat}:Ev (λn=>zih n (a:Int) (b:Int)) (Nat.gcd a b:Int):=by
 rw [yst];exact yy2 b a
def rok (r:zz7):Bool:=decide (1<=r.den)&&decide (r.den<=1000000000)&&decide (r.num.natAbs<=1000000000)&&(Nat.gcd r.num.natAbs r.den.natAbs==1)
theorem zpq {r:zz7}:rok r=true↔1<=r.den∧r.den<=1000000000∧r.num.natAbs<=1000000000∧Nat.gcd r.num.natAbs r.den.natAbs=1:=by
 simp [rok,and_assoc]
theorem yuk {r:zz7} (h:I64 r.num):Ev (λn=>ze9 n r) (if rok r then 0 else 8):=by
 have l0:∀b,Ev (λn=>z2e n b) (if b then 8 else 0):=λb=>by
  rw [y4v];cases b <;> simp [Ev.pif,Ev.kz0]
 rw [ydk]
 simp only [Ev.pif,decide_eq_true_eq]
 split
 ·refine (l0 _).to ?_;rw [if_pos rfl,if_neg];rw [zpq];omega
 split
 ·refine (l0 _).to ?_;rw [if_pos rfl,if_neg];rw [zpq];omega
 rw [Ev.yz0 (yfw h)]
 simp only [Ev.pif,decide_eq_true_eq]
 split
 ·refine (l0 _).to ?_;rw [if_pos rfl,if_neg];rw [zpq];omega
 rw [Ev.yz0 (yfw h),wU (by omega)]
 have hd:r.den=(r.den.natAbs:Int):=by omega
 rw [hd,Ev.yz0 z036]
 refine (l0 _).to ?_
 have:((((Nat.gcd r.num.natAbs r.den.natAbs:Nat):Int) != 1)=true)↔¬rok r=true:=by
  rw [zpq]
  simp only [bne_iff_ne,ne_eq]
  omega
 by_cases hr:rok r=true
 ·rw [if_neg (by rw [this];simpa using hr),if_pos hr]
 ·rw [if_pos (by rw [this];exact hr),if_neg hr]
theorem z05e (a b:Int):Nat.gcd a.natAbs b.natAbs=Nat.gcd b.natAbs (a.tmod b).natAbs:=by
 rw [Int.natAbs_tmod,Nat.gcd_comm a.natAbs,Nat.gcd_rec b.natAbs a.natAbs,Nat.gcd_comm]
theorem ymk:∀(m:Nat) (b a:Int),b.natAbs=m->I64 a->I64 b->¬a = -9223372036854775808->¬b = -9223372036854775808->Ev (λn=>z4s n b a) (Nat.gcd a.natAbs b.natAbs:Int):=by
 intro m
 induction m using Nat.strongRecOn with
 |ind m ih =>
  intro b a hm ha hb ha0 hb0
  unfold I64 at ha hb
  rw [y1p]
  by_cases h0:b=0
  · subst h0
    simp only [Ev.pif,Ev.kz0,decide_eq_true_eq]
    rw [if_neg (by simp)]
    split
    · rw [wI (by omega)];simp;omega
    · simp;omega
  · have hr:rem .i64 a b=some (a.tmod b):=by unfold rem;rw [if_neg h0]
    have h1:(a.tmod b).natAbs<b.natAbs:=by rw [Int.natAbs_tmod];exact Nat.mod_lt _ (by omega)
    rw [Ev.yz1 (by simpa using h0),Ev.kz2 hr]
    have:=ih _ (by rw [<-hm];exact h1) (a.tmod b) b rfl hb (by unfold I64;omega) hb0 (by omega)
    rw [z05e a b]
    exact this
theorem yqk {a b:Int} (ha:I64 a) (hb:I64 b) (ha0:¬a = -9223372036854775808) (hb0:¬b = -9223372036854775808):Ev (λn=>zce n a b) (Nat.gcd a.natAbs b.natAbs:Int):=by
 rw [yai];exact ymk _ b a rfl ha hb ha0 hb0
theorem yty {r:zz7}:Ev (λn=>zes n r) (if rok r then 0 else 8):=by
 have l0:∀b,Ev (λn=>z17 n b) (if b then 8 else 0):=λb=>by
  rw [y5a];cases b <;> simp [Ev.pif,Ev.kz0]
 rw [yg4]
 simp only [Ev.pif,decide_eq_true_eq]
 split
 ·refine (l0 _).to ?_;rw [if_pos rfl,if_neg];rw [zpq];omega
 split
 ·refine (l0 _).to ?_;rw [if_pos rfl,if_neg];rw [zpq];omega
 split
 ·refine (l0 _).to ?_;rw [if_pos rfl,if_neg];rw [zpq];omega
 split
 ·refine (l0 _).to ?_;rw [if_pos rfl,if_neg];rw [zpq];omega
 rw [Ev.yz0 (yqk (by unfold I64;omega) (by unfold I64;omega) (by omega) (by omega))]
 refine (l0 _).to ?_
 have:((((Nat.gcd r.num.natAbs r.den.natAbs:Nat):Int) != 1)=true)↔¬rok r=true:=by
  rw [zpq]
  simp only [bne_iff_ne,ne_eq]
  omega
 by_cases hr:rok r=true
 ·rw [if_neg (by rw [this];simpa using hr),if_pos hr]
 ·rw [if_pos (by rw [this];exact hr),if_neg hr]
end Go.Proofs.YtahcjggdcmgpkaaGreat
namespace Go.Proofs.YtahcjggdcmgpkaaGreat
open Go Go.Ab
set_option linter.unusedVariables false
set_option linter.unusedSimpArgs false
def wfR (r:zz7):Prop:=I64 r.num∧I64 r.den
def fdiv (a b:zz7):Int×Int:=(a.num * b.den,a.den * b.num)
end Go.Proofs.YtahcjggdcmgpkaaGreat
namespace Go.Proofs.YtahcjggdcmgpkaaGreat
open Go Go.Ab
set_option linter.unusedVariables false
set_option linter.unusedSimpArgs false
theorem ydm {P:yz2->Prop} (h:∀v:yz2,(∀x,x∈v.list->P x)->P v) (v:yz2):P v:=h v λx hx=>ydm h x
termination_by v
decreasing_by exact yz2.y46 hx
mutual
def ziz:yz2->Nat
 |⟨k,_,_,_,l⟩=>if k=4 then 1+z9t l else 1
def z9t:List yz2->Nat
 |[]=>0
 |x::l=>ziz x+z9t l
end
mutual
def zl7:yz2->Nat
 |⟨k,_,_,_,l⟩=>if k=4 then max 1 (zoy l) else 1
def zoy:List yz2->Nat
 |[]=>0
 |x::l=>max (1+zl7 x) (zoy l)
end
theorem zui (v:yz2):ziz v=if v.kind=4 then 1+z9t v.list else 1:=by cases v;rw [ziz]
theorem y4t (v:yz2):zl7 v=if v.kind=4 then max 1 (zoy v.list) else 1:=by cases v;rw [zl7]
theorem z059 {l:List yz2} {x:yz2} (h:x∈l):x.size<=(l.map yz2.size).sum:=by
 induction l with
 |nil=>cases h
 |cons y l ih =>
  rcases List.mem_cons.1 h with rfl|h
  · simp
  · have:=ih h;simp;omega
theorem ze5 (v:yz2):(v.list.map yz2.size).sum+v.str.length+4<=v.size:=by rw [yz2.size_eq];omega
theorem zt5 {v x:yz2} (h:x∈v.list):x.size<=v.size:=by have:=z059 h;have:=ze5 v;omega
theorem zob (l:List yz2):l.length<=(l.map yz2.size).sum:=by
 induction l with
 |nil=>simp
 |cons x l ih=>have:=ze5 x;simp;omega
theorem y03:∀v:yz2,ziz v<=v.size:=ydm λv ih=>by
 have:∀l:List yz2,(∀x,x∈l->x∈v.list)->z9t l<=(l.map yz2.size).sum:=λl=>by
  induction l with
  |nil=>intro _;simp [z9t]
  |cons x l ihl =>
   intro hl
   have:=ih x (hl x List.mem_cons_self)
   have:=ihl λy hy=>hl y (List.mem_cons_of_mem _ hy)
   simp [z9t];omega
 have:=this v.list λ_ h=>h
 have:=ze5 v
 rw [zui];split <;> omega
theorem ywc:∀v:yz2,zl7 v<=ziz v:=ydm λv ih=>by
 have:∀l:List yz2,(∀x,x∈l->x∈v.list)->zoy l<=1+z9t l:=λl=>by
  induction l with
  |nil=>intro _;simp [z9t,zoy]
  |cons x l ihl =>
   intro hl
   have:=ih x (hl x List.mem_cons_self)
   have:=ihl λy hy=>hl y (List.mem_cons_of_mem _ hy)
   simp [z9t,zoy];omega
 have:=this v.list λ_ h=>h
 rw [zui,y4t];split <;> omega
theorem ybq (l:List yz2):z9t l<=(l.map yz2.size).sum:=by
 induction l with
 |nil=>simp [z9t]
 |cons x l ih=>have:=y03 x;simp [z9t];omega
theorem yky:∀v:yz2,v.size<=8388608->Ev (λn=>z81 n v) ((ziz v:Int),(zl7 v:Int)):=ydm λv ih hs=>by
 have l1:∀d p,Ev (λn=>z3g n d p) (p,d):=λd p=>by rw [y0h,Ev.kz0]
 have hsl:=ze5 v
 have hlen:=zob v.list
 have loop:∀k,k<=v.list.length->∀d p:Nat,p+z9t (v.list.drop k)<=8388609->d<=8388609->Ev (λn=>z3o n (k:Int) (d:Int) (p:Int) v.list (v.list.length:Int)) (((p+z9t (v.list.drop k):Nat):Int),((max d (zoy (v.list.drop k)):Nat):Int)) :=
  down (λd p hp hd=>by
   rw [zp5,Ev.kz1 (by simp)]
   refine (l1 _ _).to ?_
   simp [z9t,zoy]) λk hk ihk d p hp hd=>by
   have hx:=List.getElem_mem hk
   have hsx:=zt5 hx
   rw [<-List.getElem_cons_drop (h:=hk)] at hp ⊢
   simp only [z9t,zoy] at hp ⊢
   have hpl:=y03 v.list[k]
   have hdl:=ywc v.list[k]
   rw [zp5,Ev.yz1 (by simpa using hk),Ev.kz2 (yz6 hk),yz2.yz5,Ev.yz0 (ih _ hx (by omega)),wI (x:=_+1) (by omega),wI (x:=(zl7 _:Int)+1) (by omega),wI (x:=(p:Int)+_) (by omega)]
   have e1:(k:Int)+1=((k+1:Nat):Int):=by omega
   have e2:(zl7 v.list[k]:Int)+1=((1+zl7 v.list[k]:Nat):Int):=by omega
   have e3:(p:Int)+(ziz v.list[k]:Int)=((p+ziz v.list[k]:Nat):Int):=by omega
   rw [e1,e2,e3,yb7]
   refine (ihk (max d (1+zl7 v.list[k])) (p+ziz v.list[k]) (by omega) (by omega)).to ?_
   congr 2 <;> omega
 rw [y5i]
 by_cases hk:v.kind=4
 ·rw [Ev.yz1 (by simpa using hk)]
  have hv:=ybq v.list
  have:=loop 0 (Nat.zero_le _) 1 1 (by simp;omega) (by omega)
  refine this.to ?_
  rw [zui,y4t,if_pos hk,if_pos hk,List.drop_zero]
 ·rw [Ev.kz1 (by simpa using hk)]
  refine (l1 1 1).to ?_
  rw [zui,y4t,if_neg hk,if_neg hk];rfl
theorem y8n:∀v:yz2,v.size<=8388608->Ev (λn=>z9f n v) (ziz v:Int):=ydm λv ih hs=>by
 have hsl:=ze5 v
 have hlen:=zob v.list
 rw [yc8,yz2.yz5,zui]
 by_cases hk:v.kind=4
 ·rw [if_pos hk]
  have hkk:(v.kind==4)=true:=by simpa using hk
  have loop:∀k,k<=v.list.length->∀p:Nat,p+z9t (v.list.drop k)<=8388609->Ev (λn=>z6w n (k:Int) (p:Int) v) ((p+z9t (v.list.drop k):Nat):Int) :=
   down (λp hp=>by
    rw [zlv,Ev.kz1 (by simp),zm8,Ev.kz1 (by rfl),Ev.kz0]
    simp [z9t]) λk hk ihk p hp=>by
    have hx:=List.getElem_mem hk
    have hsx:=zt5 hx
    rw [<-List.getElem_cons_drop (h:=hk)] at hp ⊢
    simp only [z9t] at hp ⊢
    have hpl:=y03 v.list[k]
    rw [zlv,Ev.yz1 (by simpa using hk),hkk,yz2.yz5,zm8,Ev.yz1 (by rfl),Ev.kz2 (yz6 hk),yz2.yz5,Ev.yz0 (ih _ hx (by omega)),wI (x:=_+1) (by omega),wI (x:=(p:Int)+_) (by omega)]
    have e1:(k:Int)+1=((k+1:Nat):Int):=by omega
    have e3:(p:Int)+(ziz v.list[k]:Int)=((p+ziz v.list[k]:Nat):Int):=by omega
    rw [e1,e3,yz2.yz5]
    refine (ihk (p+ziz v.list[k]) (by omega)).to ?_
    congr 1;omega
  have hv:=ybq v.list
  exact loop 0 (Nat.zero_le _) 1 (by simp;omega)
 ·rw [if_neg hk]
  have hkk:(v.kind==4)=false:=by simpa using hk
  have l1:Ev (λn=>z60 n 0 1 false v) 1:=by rw [zm8,Ev.kz1 (by rfl),Ev.kz0]
  rw [zlv,hkk,yz2.yz5,Ev.pif]
  split <;> exact l1
theorem yym:∀v:yz2,v.size<=8388608->Ev (λn=>zdr n v) (zl7 v:Int):=ydm λv ih hs=>by
 have hsl:=ze5 v
 have hlen:=zob v.list
 rw [yix,yz2.yz5,y4t]
 by_cases hk:v.kind=4
 ·rw [if_pos hk]
  have hkk:(v.kind==4)=true:=by simpa using hk
  have loop:∀k,k<=v.list.length->∀p:Nat,p<=8388609->Ev (λn=>z84 n (k:Int) (p:Int) v) ((max p (zoy (v.list.drop k)):Nat):Int) :=
   down (λp hp=>by
    rw [znt,Ev.kz1 (by simp),znv,Ev.kz1 (by rfl),Ev.kz0]
    simp [zoy]) λk hk ihk p hp=>by
    have hx:=List.getElem_mem hk
    have hsx:=zt5 hx
    rw [<-List.getElem_cons_drop (h:=hk)]
    simp only [zoy]
    have hpl:=y03 v.list[k]
    have hdl:=ywc v.list[k]
    rw [znt,Ev.yz1 (by simpa using hk),hkk,yz2.yz5,znv,Ev.yz1 (by rfl),Ev.kz2 (yz6 hk),yz2.yz5,Ev.yz0 (ih _ hx (by omega)),wI (x:=_+1) (by omega),wI (x:=1+_) (by omega)]
    have e1:(k:Int)+1=((k+1:Nat):Int):=by omega
    have e3:1+(zl7 v.list[k]:Int)=((1+zl7 v.list[k]:Nat):Int):=by omega
    rw [e1,e3,yz2.yz5,yb7]
    refine (ihk (max p (1+zl7 v.list[k])) (by omega)).to ?_
    congr 1;omega
  exact loop 0 (Nat.zero_le _) 1 (by omega)
 ·rw [if_neg hk]
  have hkk:(v.kind==4)=false:=by simpa using hk
  have l1:Ev (λn=>z8j n 0 1 false v) 1:=by rw [znv,Ev.kz1 (by rfl),Ev.kz0]
  rw [znt,hkk,yz2.yz5,Ev.pif]
  split <;> exact l1
end Go.Proofs.YtahcjggdcmgpkaaGreat
namespace Go.Proofs.YtahcjggdcmgpkaaGreat
open Go Go.Ab
set_option linter.unusedVariables false
set_option linter.unusedSimpArgs false
def v0:yz2:=⟨0,⟨0,0⟩,false,[],[]⟩
def zxa (c:UInt8):Bool:=decide (32<=c.toNat)&&decide (c.toNat<=126)
def nul (v:zz7):Bool:=v.num==0&&v.den==0
mutual
def zx5:yz2->Bool
 |⟨k,q,t,s,l⟩ =>
  if k=1 then rok q&&(!t&&(s.isEmpty&&l.isEmpty))
  else if k=2 then nul q&&(s.isEmpty&&l.isEmpty)
  else if k=3 then nul q&&(!t&&(l.isEmpty&&(decide (s.length<=60)&&s.all zxa)))
  else if k=4 then nul q&&(!t&&(s.isEmpty&&zqh l))
  else false
def zqh:List yz2->Bool
 |[]=>true
 |x::l=>zx5 x&&zqh l
end
theorem ywn (v:yz2):zx5 v =
 if v.kind=1 then rok v.num&&(!v.truth&&(v.str.isEmpty&&v.list.isEmpty))
 else if v.kind=2 then nul v.num&&(v.str.isEmpty&&v.list.isEmpty)
 else if v.kind=3 then nul v.num&&(!v.truth&&(v.list.isEmpty&&(decide (v.str.length<=60)&&v.str.all zxa)))
 else if v.kind=4 then nul v.num&&(!v.truth&&(v.str.isEmpty&&zqh v.list))
 else false:=by cases v;rw [zx5]
def y2a (v:yz2):Int:=if 100<ziz v∨6<zl7 v then 4 else if zx5 v then 0 else 8
theorem z07x {v:yz2} (h:v.wf):wfR v.num:=by
 rw [yz2.z6u] at h
 have:=h.2.1
 rw [zz7.z6u] at this
 simpa [wfR,I64,IntKind.min,IntKind.max,IntKind.signed,IntKind.bits] using this
theorem z072 {v:yz2} (h:v.wf):∀x∈v.list,x.wf:=by
 rw [yz2.z6u] at h;exact h.2.2.2.2
theorem zny {v:yz2}:Ev (λn=>z3a n v) (nul v.num&&(!v.truth&&(v.str.isEmpty&&v.list.isEmpty))):=by
 rw [y7f]
 obtain ⟨k,⟨p,q⟩,t,s,l⟩:=v
 simp only [Ev.pif,Ev.kz0,nul,Bool.and_true]
 cases p==0 <;> cases q==0 <;> cases t <;> cases s <;> cases l <;> simp <;> omega
theorem z002:∀v:yz2,v.wf->v.size<=8388608->Ev (λn=>zdv n v) (zx5 v):=ydm λv ih hw hs=>by
 have hsl:=ze5 v
 have hlen:=zob v.list
 rw [ykx,ywn]
 by_cases h1:v.kind=1
 ·rw [if_pos h1,Ev.yz1 (by simpa using h1),Ev.yz0 (yuk (z07x hw).1)]
  cases hr:rok v.num
  ·rw [Ev.yz1 (by rfl),Ev.kz0];rfl
  ·rw [Ev.kz1 (by rfl)]
   exact zny
 rw [if_neg h1,Ev.kz1 (by simpa using h1)]
 by_cases h2:v.kind=2
 ·rw [if_pos h2,Ev.yz1 (by simpa using h2)]
  exact zny
 rw [if_neg h2,Ev.kz1 (by simpa using h2)]
 by_cases h3:v.kind=3
 ·rw [if_pos h3,Ev.yz1 (by simpa using h3)]
  by_cases hl:v.str.length<=60
  ·rw [Ev.kz1 (by simp;omega),yz2.yz5]
   have loop:∀w:yz2,∀k,k<=v.str.length->Ev (λn=>z86 n (k:Int) v w) ((v.str.drop k).all zxa&&(nul w.num&&(!w.truth&&(w.str.isEmpty&&w.list.isEmpty)))):=λw =>
    down (by
     rw [zvx,Ev.kz1 (by simp),yz2.yz5]
     simpa using zny) λk hk ihk=>by
     have bad:Ev (λn=>z8h n (k:Int) true v w) false:=by rw [zv5,Ev.yz1 (by rfl),Ev.kz0]
     rw [<-List.getElem_cons_drop (h:=hk),List.all_cons]
     rw [zvx,Ev.yz1 (by simpa using hk),Ev.kz2 (yz6 hk),yz2.yz5,yz2.yz5]
     by_cases c1:v.str[k].toNat<32
     ·rw [Ev.yz1 (by simp;omega)]
      refine bad.to ?_
      have:zxa v.str[k]=false:=by simp [zxa];omega
      rw [this];rfl
     ·rw [Ev.kz1 (by simp;omega),Ev.kz2 (yz6 hk)]
      by_cases c2:v.str[k].toNat>126
      ·rw [show decide ((v.str[k].toNat:Int)>126)=true by simp;omega]
       refine bad.to ?_
       have:zxa v.str[k]=false:=by simp [zxa];omega
       rw [this];rfl
      ·rw [show decide ((v.str[k].toNat:Int)>126)=false by simp;omega,zv5,Ev.kz1 (by rfl),wrk (by omega),yz2.yz5,yz2.yz5]
       have:zxa v.str[k]=true:=by simp [zxa];omega
       rw [this,Bool.true_and]
       exact ihk
   refine (loop ⟨v.kind,v.num,v.truth,[],v.list⟩ 0 (Nat.zero_le _)).to ?_
   simp only [List.drop_zero,hl,decide_true,Bool.true_and,List.isEmpty_nil]
   cases nul v.num <;> cases v.truth <;> cases v.list.isEmpty <;> cases v.str.all zxa <;> rfl
  ·rw [Ev.yz1 (by simp;omega),Ev.kz0]
   simp [hl]
 rw [if_neg h3,Ev.kz1 (by simpa using h3)]
 by_cases h4:v.kind=4
 ·rw [if_pos h4,Ev.yz1 (by simpa using h4)]
  have loop:∀w:yz2,∀k,k<=v.list.length->Ev (λn=>z8l n (k:Int) v.list (v.list.length:Int) w) (zqh (v.list.drop k)&&(nul w.num&&(!w.truth&&(w.str.isEmpty&&w.list.isEmpty)))):=λw =>
   down (by
    rw [zvp,Ev.kz1 (by simp),yz2.yz5]
    simpa [zqh] using zny) λk hk ihk=>by
    have hx:=List.getElem_mem hk
    have hsx:=zt5 hx
    rw [<-List.getElem_cons_drop (h:=hk),zqh]
    rw [zvp,Ev.yz1 (by simpa using hk),Ev.kz2 (yz6 hk),yz2.yz5,Ev.yz0 (ih _ hx (z072 hw _ hx) (by omega))]
    cases hf:zx5 v.list[k]
    ·rw [Ev.yz1 (by rfl),Ev.kz0];rfl
    ·rw [Ev.kz1 (by rfl),wrk (by omega),yz2.yz5,Bool.true_and]
     exact ihk
  refine (loop ⟨v.kind,v.num,v.truth,v.str,[]⟩ 0 (Nat.zero_le _)).to ?_
  simp only [List.drop_zero,List.isEmpty_nil,Bool.and_true]
  cases nul v.num <;> cases v.truth <;> cases v.str.isEmpty <;> cases zqh v.list <;> rfl
 ·rw [if_neg h4,Ev.kz1 (by simpa using h4),Ev.kz0]
theorem yvl {v:yz2} (hw:v.wf) (hs:v.size<=8388608):Ev (λn=>ze0 n v) (y2a v):=by
 have l0:∀b,Ev (λn=>z64 n b v) (if b then 4 else if zx5 v then 0 else 8):=λb=>by
  rw [y57]
  cases b
  ·rw [Ev.kz1 (by rfl),yz2.yz5,Ev.yz0 (z002 v hw hs)]
   cases zx5 v
   ·rw [Ev.yz1 (by rfl),Ev.kz0];rfl
   ·rw [Ev.kz1 (by rfl),Ev.kz0];rfl
  ·rw [Ev.yz1 (by rfl),Ev.kz0];rfl
 rw [yg9,yz2.yz5,Ev.yz0 (yky v hs)]
 unfold y2a
 simp only [Ev.pif]
 by_cases h1:100<ziz v
 ·rw [if_pos (by simp;omega),if_pos (.inl h1)];exact l0 true
 ·rw [if_neg (by simp;omega)]
  by_cases h2:6<zl7 v
  ·rw [if_pos (.inr h2),show decide ((zl7 v:Int)>6)=true by simp;omega];exact l0 true
  ·rw [if_neg (by omega),show decide ((zl7 v:Int)>6)=false by simp;omega];exact l0 false
theorem yyp:∀v:yz2,v.size<=8388608->Ev (λn=>zd7 n v) (zx5 v):=ydm λv ih hs=>by
 have hsl:=ze5 v
 have hlen:=zob v.list
 rw [yia,ywn]
 have hnul:((v.num.num==0)&&((v.num.den==0)&&true))=nul v.num:=by simp [nul]
 have hstr:((v.str.length:Int)==0)=v.str.isEmpty:=by cases v.str <;> simp;omega
 have hlst:((v.list.length:Int)==0)=v.list.isEmpty:=by cases v.list <;> simp;omega
 have hgt:decide ((v.list.length:Int)>0) = !v.list.isEmpty:=by cases v.list <;> simp
 have hgs:decide ((v.str.length:Int)>0) = !v.str.isEmpty:=by cases v.str <;> simp
 simp only [hnul,hstr,hlst,hgt,hgs]
 by_cases h1:v.kind=1
 ·rw [if_pos h1,Ev.yz1 (by simpa using h1),Ev.yz0 yty]
  cases hr:rok v.num <;> cases ht:v.truth <;> cases hss:v.str.isEmpty <;> simp [Ev.pif,Ev.kz0]
 rw [if_neg h1,Ev.kz1 (by simpa using h1)]
 by_cases h2:v.kind=2
 ·rw [if_pos h2,Ev.yz1 (by simpa using h2)]
  cases hr:nul v.num <;> cases hss:v.str.isEmpty <;> simp [Ev.pif,Ev.kz0]
 rw [if_neg h2,Ev.kz1 (by simpa using h2)]
 by_cases h3:v.kind=3
 ·rw [if_pos h3,Ev.yz1 (by simpa using h3)]
  have bad:Ev (λn=>z1p n true v) false:=by rw [zv3,Ev.yz1 (by rfl),Ev.kz0]
  have loop:∀k,k<=v.str.length->Ev (λn=>z7m n (k:Int) v) ((v.str.drop k).all zxa) :=
   down (by
    rw [zvs,Ev.kz1 (by simp),Ev.kz0]
    simp) λk hk ihk=>by
    have bad:Ev (λn=>z7n n (k:Int) true v) false:=by rw [zw0,Ev.yz1 (by rfl),Ev.kz0]
    rw [<-List.getElem_cons_drop (h:=hk),List.all_cons]
    rw [zvs,Ev.yz1 (by simpa using hk),Ev.kz2 (yz6 hk),yz2.yz5]
    by_cases c1:v.str[k].toNat<32
    ·rw [Ev.yz1 (by simp;omega)]
     refine bad.to ?_
     have:zxa v.str[k]=false:=by simp [zxa];omega
     rw [this];rfl
    ·rw [Ev.kz1 (by simp;omega),Ev.kz2 (yz6 hk)]
     by_cases c2:v.str[k].toNat>126
     ·rw [show decide ((v.str[k].toNat:Int)>126)=true by simp;omega]
      refine bad.to ?_
      have:zxa v.str[k]=false:=by simp [zxa];omega
      rw [this];rfl
     ·rw [show decide ((v.str[k].toNat:Int)>126)=false by simp;omega,zw0,Ev.kz1 (by rfl),wrk (by omega),yz2.yz5]
      have:zxa v.str[k]=true:=by simp [zxa];omega
      rw [this,Bool.true_and]
      exact ihk
  have good:Ev (λn=>z1p n false v) (v.str.all zxa):=by
   rw [zv3,Ev.kz1 (by rfl),yz2.yz5];simpa using loop 0 (Nat.zero_le _)
  rw [yz2.yz5]
  cases hr:nul v.num
  ·rw [Ev.yz1 (by rfl)];exact bad
  rw [Ev.kz1 (by rfl)]
  cases ht:v.truth
  ·rw [Ev.kz1 (by rfl)]
   cases hl:v.list.isEmpty
   ·rw [Ev.yz1 (by rfl)];exact bad
   ·rw [Ev.kz1 (by rfl)]
    by_cases h60:v.str.length<=60
    ·rw [show decide ((v.str.length:Int)>60)=false by simp;omega]
     simpa [h60] using good
    ·rw [show decide ((v.str.length:Int)>60)=true by simp;omega]
     simpa [h60] using bad
  ·rw [Ev.yz1 (by rfl)];exact bad
 rw [if_neg h3,Ev.kz1 (by simpa using h3)]
 by_cases h4:v.kind=4
 ·rw [if_pos h4,Ev.yz1 (by simpa using h4)]
  have bad:Ev (λn=>z3d n true v) false:=by rw [zum,Ev.yz1 (by rfl),Ev.kz0]
  have loop:∀k,k<=v.list.length->Ev (λn=>z8g n (k:Int) v) (zqh (v.list.drop k)) :=
   down (by
    rw [zvv,Ev.kz1 (by simp),Ev.kz0]
    simp [zqh]) λk hk ihk=>by
    have hx:=List.getElem_mem hk
    have hsx:=zt5 hx
    rw [<-List.getElem_cons_drop (h:=hk),zqh]
    rw [zvv,Ev.yz1 (by simpa using hk),Ev.kz2 (yz6 hk),yz2.yz5,Ev.yz0 (ih _ hx (by omega))]
    cases hf:zx5 v.list[k]
    ·rw [Ev.yz1 (by rfl),Ev.kz0];rfl
    ·rw [Ev.kz1 (by rfl),wrk (by omega),yz2.yz5,Bool.true_and]
     exact ihk
  have good:Ev (λn=>z3d n false v) (zqh v.list):=by
   rw [zum,Ev.kz1 (by rfl),yz2.yz5];simpa using loop 0 (Nat.zero_le _)
  rw [yz2.yz5]
  cases hr:nul v.num
  ·rw [Ev.yz1 (by rfl)];exact bad
  rw [Ev.kz1 (by rfl)]
  cases ht:v.truth
  ·rw [Ev.kz1 (by rfl)]
   cases hl:v.str.isEmpty
   ·exact bad
   ·simpa using good
  ·rw [Ev.yz1 (by rfl)];exact bad
 ·rw [if_neg h4,Ev.kz1 (by simpa using h4),Ev.kz0]
theorem yx0 {v:yz2} (hs:v.size<=8388608):Ev (λn=>zdz n v) (y2a v):=by
 have l0:∀b,Ev (λn=>z74 n b v) (if b then 4 else if zx5 v then 0 else 8):=λb=>by
  rw [y3t]
  cases b
  ·rw [Ev.kz1 (by rfl),yz2.yz5,Ev.yz0 (yyp v hs)]
   cases zx5 v
   ·rw [Ev.yz1 (by rfl),Ev.kz0];rfl
   ·rw [Ev.kz1 (by rfl),Ev.kz0];rfl
  ·rw [Ev.yz1 (by rfl),Ev.kz0];rfl
 rw [yg8,yz2.yz5,Ev.yz0 (y8n v hs)]
 unfold y2a
 by_cases h1:100<ziz v
 ·rw [Ev.yz1 (by simp;omega),if_pos (.inl h1)];exact l0 true
 ·rw [Ev.kz1 (by simp;omega),Ev.yz0 (yym v hs)]
  by_cases h2:6<zl7 v
  ·rw [if_pos (.inr h2),show decide ((zl7 v:Int)>6)=true by simp;omega];exact l0 true
  ·rw [if_neg (by omega),show decide ((zl7 v:Int)>6)=false by simp;omega];exact l0 false
end Go.Proofs.YtahcjggdcmgpkaaGreat
namespace Go.Proofs.YtahcjggdcmgpkaaGreat
open Go Go.Ab
set_option linter.unusedVariables false
set_option linter.unusedSimpArgs false
theorem vext {a b:yz2} (h1:a.kind=b.kind) (h2:a.num.num=b.num.num) (h3:a.num.den=b.num.den) (h4:a.truth=b.truth) (h5:a.str=b.str) (h6:a.list=b.list):a=b:=by
 obtain ⟨k,⟨p,q⟩,t,s,l⟩:=a
 obtain ⟨k',⟨p',q'⟩,t',s',l'⟩:=b
 simp_all
theorem yu4 {α:Type} {x y:α} {l m:List α}:eqB (x::l) (y::m)=(eqB x y&&eqB l m):=by
 cases h:(eqB x y&&eqB l m)
 ·rw [zzp];intro hh;injection hh with h1 h2
  rw [Bool.and_eq_false_iff,zzp,zzp] at h
  exact h.elim (λh=>h h1) (λh=>h h2)
 ·rw [z9a]
  rw [Bool.and_eq_true,z9a,z9a] at h
  rw [h.1,h.2]
theorem yct:∀a b:yz2,a.size<=8388608->Ev (λn=>z4a n a b) (eqB a b):=ydm (P:=λa=>∀b:yz2,a.size<=8388608->Ev (λn=>z4a n a b) (eqB a b)) λa ih b hs=>by
 have hsl:=ze5 a
 have hlen:=zob a.list
 have bad:a≠b->Ev (λn=>z1r n true b a) (eqB a b):=λh=>by rw [zuo,Ev.yz1 (by rfl),Ev.kz0,zzp.2 h]
 rw [yif,yz2.yz5,yz2.yz5]
 by_cases h1:a.kind=b.kind
 case neg=>rw [Ev.yz1 (by simpa using h1)];exact bad λh=>h1 (by rw [h])
 rw [Ev.kz1 (by simpa using h1)]
 by_cases h2:a.num.num=b.num.num∧a.num.den=b.num.den
 case neg=>rw [Ev.yz1 (by simp;omega)];exact bad λh=>h2 (by rw [h];exact ⟨rfl,rfl⟩)
 rw [Ev.kz1 (by simp [h2])]
 by_cases h3:a.truth=b.truth
 case neg=>rw [Ev.yz1 (by simpa using h3)];exact bad λh=>h3 (by rw [h])
 rw [Ev.kz1 (by simp [h3])]
 by_cases h4:a.str=b.str
 case neg=>rw [Ev.yz1 (by simpa using h4)];exact bad λh=>h4 (by rw [h])
 rw [Ev.kz1 (by simp [h4])]
 by_cases h5:a.list.length=b.list.length
 case neg=>rw [show ((a.list.length:Int) != (b.list.length:Int))=true by simp;omega];exact bad λh=>h5 (by rw [h])
 rw [show ((a.list.length:Int) != (b.list.length:Int))=false by simp;omega,zuo,Ev.kz1 (by rfl),yz2.yz5,yz2.yz5]
 have loop:∀k,k<=a.list.length->Ev (λn=>z89 n (k:Int) (a.list.length:Int) b a) (eqB (a.list.drop k) (b.list.drop k)) :=
  down (by
   rw [zv9,Ev.kz1 (by simp),Ev.kz0,List.drop_length,h5,List.drop_length,zb1]) λk hk ihk=>by
   have hk2:k<b.list.length:=by omega
   have hx:=List.getElem_mem hk
   have hsx:=zt5 hx
   rw [<-List.getElem_cons_drop (h:=hk),<-List.getElem_cons_drop (h:=hk2),yu4]
   rw [zv9,Ev.yz1 (by simpa using hk),Ev.kz2 (yz6 hk),Ev.kz2 (yz6 hk2),yz2.yz5,yz2.yz5,Ev.yz0 (ih _ hx _ (by omega))]
   cases hf:eqB a.list[k] b.list[k]
   ·rw [Ev.yz1 (by rfl),Ev.kz0];rfl
   ·rw [Ev.kz1 (by rfl),wrk (by omega),yz2.yz5,yz2.yz5,Bool.true_and]
    exact ihk
 refine (loop 0 (Nat.zero_le _)).to ?_
 rw [List.drop_zero,List.drop_zero]
 by_cases h6:a.list=b.list
 ·rw [z9a.2 h6,z9a.2 (vext h1 h2.1 h2.2 h3 h4 h6)]
 ·rw [zzp.2 h6,zzp.2 λh=>h6 (by rw [h])]
theorem yfi:∀a b:yz2,a.size<=8388608->Ev (λn=>z45 n a b) (eqB a b):=ydm (P:=λa=>∀b:yz2,a.size<=8388608->Ev (λn=>z45 n a b) (eqB a b)) λa ih b hs=>by
 have hsl:=ze5 a
 have hlen:=zob a.list
 have bad:a≠b->Ev (λn=>z1q n true b a) (eqB a b):=λh=>by rw [zve,Ev.yz1 (by rfl),Ev.kz0,zzp.2 h]
 rw [yl4,yz2.yz5,yz2.yz5]
 by_cases h1:a.kind=b.kind
 case neg=>rw [Ev.yz1 (by simpa using h1)];exact bad λh=>h1 (by rw [h])
 rw [Ev.kz1 (by simpa using h1)]
 by_cases h2:a.num.num=b.num.num∧a.num.den=b.num.den
 case neg=>rw [Ev.yz1 (by simp;omega)];exact bad λh=>h2 (by rw [h];exact ⟨rfl,rfl⟩)
 rw [Ev.kz1 (by simp [h2])]
 by_cases h3:a.truth=b.truth
 case neg=>rw [Ev.yz1 (by simpa using h3)];exact bad λh=>h3 (by rw [h])
 rw [Ev.kz1 (by simp [h3])]
 by_cases h4:a.str=b.str
 case neg=>rw [Ev.yz1 (by simpa using h4)];exact bad λh=>h4 (by rw [h])
 rw [Ev.kz1 (by simp [h4])]
 by_cases h5:a.list.length=b.list.length
 case neg=>rw [show ((a.list.length:Int) != (b.list.length:Int))=true by simp;omega];exact bad λh=>h5 (by rw [h])
 rw [show ((a.list.length:Int) != (b.list.length:Int))=false by simp;omega,zve,Ev.kz1 (by rfl),yz2.yz5,yz2.yz5]
 have loop:∀k,k<=a.list.length->Ev (λn=>z8s n (k:Int) b a) (eqB (a.list.drop k) (b.list.drop k)) :=
  down (by
   rw [ztw,Ev.kz1 (by simp),Ev.kz0,List.drop_length,h5,List.drop_length,zb1]) λk hk ihk=>by
   have hk2:k<b.list.length:=by omega
   have hx:=List.getElem_mem hk
   have hsx:=zt5 hx
   rw [<-List.getElem_cons_drop (h:=hk),<-List.getElem_cons_drop (h:=hk2),yu4]
   rw [ztw,Ev.yz1 (by simpa using hk),Ev.kz2 (yz6 hk),Ev.kz2 (yz6 hk2),yz2.yz5,yz2.yz5,Ev.yz0 (ih _ hx _ (by omega))]
   cases hf:eqB a.list[k] b.list[k]
   ·rw [Ev.yz1 (by rfl),Ev.kz0];rfl
   ·rw [Ev.kz1 (by rfl),wrk (by omega),yz2.yz5,yz2.yz5,Bool.true_and]
    exact ihk
 refine (loop 0 (Nat.zero_le _)).to ?_
 rw [List.drop_zero,List.drop_zero]
 by_cases h6:a.list=b.list
 ·rw [z9a.2 h6,z9a.2 (vext h1 h2.1 h2.2 h3 h4 h6)]
 ·rw [zzp.2 h6,zzp.2 λh=>h6 (by rw [h])]
theorem zbb {α:Type} {l:List α} {k:Nat} (h:k<l.length):l.take k++[l[k]]=l.take (k+1):=by
 rw [List.take_add_one,List.getElem?_eq_getElem h];rfl
theorem yu8:∀v:yz2,v.size<=8388608->∀d:Int,∃b,Ev (λn=>zbn n v d) b:=ydm λv ih hs d=>by
 have hsl:=ze5 v
 have hlen:=zob v.list
 have loop:∀k,k<=v.list.length->∀d:Int,∃b,Ev (λn=>z71 n (k:Int) d v) b :=
  down (λd=>⟨false,by rw [zsy,Ev.kz1 (by simp),Ev.kz0]⟩) λk hk ihk d=>by
   have hx:=List.getElem_mem hk
   have hsx:=zt5 hx
   obtain ⟨b,hb⟩:=ih _ hx (by omega) (IntKind.i64.wrap (d-1))
   obtain ⟨c,hc⟩:=ihk d
   refine ⟨if b then true else c,?_⟩
   rw [zsy,Ev.yz1 (by simpa using hk),Ev.kz2 (yz6 hk),yz2.yz5,Ev.yz0 hb,yz2.yz5,wrk (by omega)]
   cases b
   ·rw [Ev.kz1 (by rfl)];exact hc
   ·rw [Ev.yz1 (by rfl),Ev.kz0];rfl
 have l0:∀d b,∃c,Ev (λn=>z3s n d b v) c:=λd b=>by
  cases b
  ·obtain ⟨c,hc⟩:=loop 0 (Nat.zero_le _) d
   exact ⟨c,by rw [zrs,Ev.kz1 (by rfl),yz2.yz5];exact hc⟩
  ·exact ⟨true,by rw [zrs,Ev.yz1 (by rfl),Ev.kz0]⟩
 simp only [yg3,yz2.yz5,Ev.pif]
 split
 ·exact l0 _ _
 split
 ·exact l0 _ _
 ·exact l0 _ _
theorem ywz {v:yz2} (hs:v.size<=8388608):∃b,Ev (λn=>ze4 n v) b:=by
 obtain ⟨b,hb⟩:=yu8 v hs 10
 cases b
 ·exact ⟨_,by rw [zxk,yz2.yz5,Ev.yz0 hb,Ev.kz1 (by rfl),Ev.yz0 (y8n v hs)];exact Ev.kz0.2 rfl⟩
 ·exact ⟨true,by rw [zxk,yz2.yz5,Ev.yz0 hb,Ev.yz1 (by rfl),Ev.kz0]⟩
end Go.Proofs.YtahcjggdcmgpkaaGreat
namespace Go.Proofs.YtahcjggdcmgpkaaGreat
open Go Go.Ab
set_option linter.unusedVariables false
set_option linter.unusedSimpArgs false
end Go.Proofs.YtahcjggdcmgpkaaGreat
namespace Go.Proofs.YtahcjggdcmgpkaaGreat
open Go Go.Ab
set_option linter.unusedVariables false
set_option linter.unusedSimpArgs false
theorem yft {s:List UInt8} (hs:s.length<=8388608):Ev (λn=>zdi n s) (zow s):=by
 have l3t:∀q,Ev (λn=>z16 n true s q) false:=λq=>by rw [zuy,Ev.yz1 (by rfl),Ev.kz0]
 have step:∀k (hk:k<s.length) (r:Bool),((if k=0 then isLet s[k] else zke s[k])=false->r=false)->((if k=0 then isLet s[k] else zke s[k])=true->Ev (λn=>z1o n s (k+1)) r)->Ev (λn=>z1o n s k) r:=λk hk r hf ht=>by
  have l3:∀b,(if k=0 then isLet s[k] else zke s[k]) = !b->(b=false->(zpg s k).2=1)->Ev (λn=>z16 n b s (k+(zpg s k).2)) r:=λb hb h1=>by
   cases b
   ·rw [zuy,Ev.kz1 (by rfl),h1 rfl];exact ht hb
   ·exact (l3t _).to (hf hb).symm
  rw [zvd,Ev.yz1 (by simpa using hk)]
  by_cases hlow:s[k].toNat<128
  ·have hd:=z04b hk hlow
   rw [hd] at l3
   rw [hd]
   have l2:∀b,b=isLet s[k]->Ev (λn=>z8z n (s[k].toNat:Int) (k:Int) b s (k+1)) r:=λb hb=>by
    subst hb
    rw [zun]
    cases hl:isLet s[k]
    ·rw [Ev.yz1 (by rfl)]
     by_cases h0:k=0
     ·rw [Ev.yz1 (by simpa using h0)]
      exact l3 true (by rw [if_pos h0,hl];rfl) (by simp)
     ·rw [Ev.kz1 (by simpa using h0)]
      by_cases h45:s[k].toNat=45
      ·have:s[k]=45:=UInt8.toNat_inj.1 (by simpa using h45)
       rw [Ev.kz1 (by simp;omega)]
       exact l3 false (by rw [if_neg h0,zke,this];rfl) (λ_=>rfl)
      ·have hne:(s[k]==45)=false:=by
        simp only [beq_eq_false_iff_ne];intro h;rw [h] at h45;exact h45 rfl
       rw [Ev.yz1 (by simp;omega)]
       by_cases c1:s[k].toNat<48
       ·rw [Ev.yz1 (by simp;omega)]
        refine l3 true ?_ (by simp)
        rw [if_neg h0,zke,hl,hne,ymr];simp;omega
       ·rw [Ev.kz1 (by simp;omega)]
        refine l3 _ ?_ (λ_=>rfl)
        rw [if_neg h0,zke,hl,hne,ymr]
        have e1:decide (48<=s[k].toNat)=true:=by rw [decide_eq_true_eq];omega
        have e3:decide ((s[k].toNat:Int)>57) = !decide (s[k].toNat<=57):=by
         by_cases c2:s[k].toNat<=57
         ·rw [show decide (s[k].toNat<=57)=true by rw [decide_eq_true_eq];exact c2]
          simp only [Bool.not_true,decide_eq_false_iff_not];omega
         ·rw [show decide (s[k].toNat<=57)=false by rw [decide_eq_false_iff_not];exact c2]
          simp only [Bool.not_false,decide_eq_true_eq];omega
        rw [e1,e3];simp
    ·rw [Ev.kz1 (by rfl)]
     refine l3 false ?_ (λ_=>rfl)
     split
     ·exact hl
     ·rw [zke,hl];rfl
   simp only
   by_cases c1:97<=s[k].toNat
   ·rw [Ev.yz1 (by simp;omega)]
    exact l2 _ (by simp [isLet,c1];omega)
   ·rw [Ev.kz1 (by simp;omega)]
    exact l2 _ (by simp [isLet];omega)
  ·obtain ⟨h1,h2⟩:=z02z hk (by omega)
   have nl:isLet s[k]=false:=by simp [isLet];omega
   have nm:zke s[k]=false:=by
    rw [zke,nl,ymr]
    have:(s[k]==45)=false:=by simp only [beq_eq_false_iff_ne];intro h;rw [h] at hlow;exact hlow (by decide)
    rw [this];simp;omega
   have bad:(if k=0 then isLet s[k] else zke s[k])=false:=by split <;> assumption
   rw [Ev.yz1 (by simp;omega),show decide (((zpg s k).1:Int)<=122)=false by simp;omega,zun,Ev.yz1 (by rfl)]
   by_cases h0:k=0
   ·rw [Ev.yz1 (by simpa using h0)];exact (l3t _).to (hf bad).symm
   ·rw [Ev.kz1 (by simpa using h0),Ev.yz1 (by simp;omega),Ev.kz1 (by simp;omega),show decide (((zpg s k).1:Int)>57)=true by simp;omega]
    exact (l3t _).to (hf bad).symm
 have rest:∀k,k<=s.length->1<=k->Ev (λn=>z1o n s k) ((s.drop k).all zke) :=
  down (Q:=λk=>1<=k->Ev (λn=>z1o n s k) ((s.drop k).all zke)) (λ_=>by
   rw [zvd,Ev.kz1 (by simp),Ev.kz0];simp) λk hk ih h1=>by
   rw [<-List.getElem_cons_drop (h:=hk),List.all_cons]
   refine step k hk _ (λh => ?_) λh => ?_
   ·rw [if_neg (by omega)] at h;rw [h];rfl
   ·rw [if_neg (by omega)] at h;rw [h];exact ih (by omega)
 rw [ykg]
 cases s with
 |nil=>rw [Ev.yz1 (by rfl),zu6,Ev.yz1 (by rfl),Ev.kz0];rfl
 |cons c t =>
  rw [Ev.kz1 (by simp;omega),zu6]
  by_cases h40:(c::t).length<=40
  · rw [Ev.kz1 (by simp at h40 ⊢;omega)]
    refine step 0 (by simp) _ (λh => ?_) λh => ?_
    · rw [if_pos rfl] at h;simp only [List.getElem_cons_zero] at h;simp [zow,h]
    · rw [if_pos rfl] at h;simp only [List.getElem_cons_zero] at h
      refine (rest 1 (by simp) (Nat.le_refl _)).to ?_
      simp [zow,h];intro _;simpa using h40
  · rw [Ev.yz1 (by simp at h40 ⊢;omega),Ev.kz0]
    simp [zow];intro _ _;simpa using h40
theorem ypg {c:UInt8}:Ev (λn=>zci n (c.toNat:Int)) (isLet c):=by
 rw [y95]
 simp only [Ev.pif,Ev.kz0,isLet,decide_eq_true_eq]
 split
 ·have:97<=c.toNat:=by omega
  simp [this];omega
 ·have:¬97<=c.toNat:=by omega
  simp [this]
theorem yva {c:UInt8}:Ev (λn=>zea n (c.toNat:Int)) (ymr c):=by
 rw [ydc]
 simp only [Ev.pif,Ev.kz0,ymr,decide_eq_true_eq]
 split
 ·have:48<=c.toNat:=by omega
  simp [this];omega
 ·have:¬48<=c.toNat:=by omega
  simp [this]
theorem z07w {c:UInt8}:(((c.toNat:Nat):Int) != 45) = !(c==45):=by
 cases h:c==45 with
 |true=>have:c=45:=by simpa using h
        subst this;rfl
 |false =>
  have:c.toNat≠45:=λhh=>by
   have:c=45:=UInt8.toNat_inj.1 (by simpa using hh)
   subst this;cases h
  simp;omega
theorem ybk {s:List UInt8} (hs:s.length<=8388608):Ev (λn=>zd3 n s) (zow s):=by
 have bad:∀k:Int,Ev (λn=>z1s n s k true) false:=λk=>by rw [zvh,Ev.yz1 (by rfl),Ev.kz0]
 have step:∀k (hk:k<s.length) (r:Bool),((if k=0 then isLet s[k] else zke s[k])=false->r=false)->((if k=0 then isLet s[k] else zke s[k])=true->Ev (λn=>z13 n ((k+1:Nat):Int) s) r)->Ev (λn=>z13 n (k:Int) s) r:=λk hk r hf ht=>by
  have l1:∀b,(if k=0 then isLet s[k] else zke s[k]) = !b->Ev (λn=>z1s n s (k:Int) b) r:=λb hb=>by
   cases b
   ·rw [zvh,Ev.kz1 (by rfl),wrk (by omega)];exact ht hb
   ·exact (bad _).to (hf hb).symm
  rw [zuu,Ev.yz1 (by simpa using hk),Ev.kz2 (yz6 hk),Ev.yz0 ypg]
  cases hl:isLet s[k]
  ·rw [Ev.yz1 (by rfl)]
   by_cases h0:k=0
   ·rw [Ev.yz1 (by simpa using h0)];exact l1 true (by rw [if_pos h0,hl];rfl)
   ·rw [Ev.kz1 (by simpa using h0),Ev.kz2 (yz6 hk),z07w]
    cases h45:s[k]==45
    ·rw [Ev.yz1 (by rfl),Ev.kz2 (yz6 hk),Ev.yz0 yva]
     exact l1 _ (by rw [if_neg h0,zke,hl,h45];simp)
    ·rw [Ev.kz1 (by rfl)];exact l1 false (by rw [if_neg h0,zke,hl,h45];rfl)
  ·rw [Ev.kz1 (by rfl)]
   exact l1 false (by split;exact hl;rw [zke,hl];rfl)
 have fin:∀r:Bool,r=(decide (1<=s.length)&&decide (s.length<=40))->Ev (λn=>z13 n (s.length:Int) s) r:=λr hr=>by
  rw [zuu,Ev.kz1 (by simp),hr]
  by_cases h1:1<=s.length
  ·rw [Ev.yz1 (by simp;omega),Ev.kz0];simp [h1];omega
  ·rw [Ev.kz1 (by simp;omega),Ev.kz0];simp [h1]
 have rest:∀k,k<=s.length->1<=k->Ev (λn=>z13 n (k:Int) s) ((s.drop k).all zke&&decide (s.length<=40)) :=
  down (Q:=λk=>1<=k->Ev (λn=>z13 n (k:Int) s) ((s.drop k).all zke&&decide (s.length<=40))) (λh1=>by
   refine fin _ ?_;simp [h1]) λk hk ih h1=>by
   rw [<-List.getElem_cons_drop (h:=hk),List.all_cons]
   refine step k hk _ (λh => ?_) λh => ?_
   ·rw [if_neg (by omega)] at h;rw [h];rfl
   ·rw [if_neg (by omega)] at h;rw [h];exact ih (by omega)
 rw [yit]
 cases s with
 |nil=>exact fin _ rfl
 |cons c t =>
  refine step 0 (by simp) _ (λh => ?_) λh => ?_
  · rw [if_pos rfl] at h;simp only [List.getElem_cons_zero] at h;simp [zow,h]
  · rw [if_pos rfl] at h;simp only [List.getElem_cons_zero] at h
    refine (rest 1 (by simp) (Nat.le_refl _)).to ?_
    simp [zow,h]
def zw1 (s:List UInt8):Bool:=zow s&&(!(s==[116,114,117,101]) && !(s==[102,97,108,115,101]))
theorem yy9 {s:List UInt8} (hs:s.length<=8388608):Ev (λn=>zg6 n s) (zw1 s):=by
 rw [yhh,Ev.yz0 (yft hs)]
 unfold zw1
 cases zow s <;> cases h:(s==[116,114,117,101]) <;> simp [Ev.pif,Ev.kz0]
theorem yvr {s:List UInt8} (hs:s.length<=8388608):Ev (λn=>ze2 n s) (zw1 s):=by
 rw [yf6,Ev.yz0 (ybk hs)]
 unfold zw1
 cases zow s <;> cases h:(s==[116,114,117,101]) <;> simp [Ev.pif,Ev.kz0]
end Go.Proofs.YtahcjggdcmgpkaaGreat
namespace Go.Proofs.YtahcjggdcmgpkaaGreat
open Go Go.Ab
set_option linter.unusedVariables false
set_option linter.unusedSimpArgs false
theorem zxv {P:zz1->Prop} (h:∀e:zz1,(∀x,x∈e.args->P x)->P e) (e:zz1):P e:=h e λx hx=>zxv h x
termination_by e
decreasing_by exact zz1.y3j hx
mutual
def z99:zz1->Nat
 |⟨_,_,_,l⟩=>1+yzu l
def yzu:List zz1->Nat
 |[]=>0
 |x::l=>z99 x+yzu l
end
mutual
def zi4:zz1->Nat
 |⟨_,_,_,l⟩=>max 1 (zl3 l)
def zl3:List zz1->Nat
 |[]=>0
 |x::l=>max (1+zi4 x) (zl3 l)
end
theorem zee (e:zz1):z99 e=1+yzu e.args:=by cases e;rw [z99]
theorem y4g (e:zz1):zi4 e=max 1 (zl3 e.args):=by cases e;rw [zi4]
theorem y05 {l:List zz1} {x:zz1} (h:x∈l):x.size<=(l.map zz1.size).sum:=by
 induction l with
 |nil=>cases h
 |cons y l ih =>
  rcases List.mem_cons.1 h with rfl|h
  · simp
  · have:=ih h;simp;omega
theorem zbv (e:zz1):(e.args.map zz1.size).sum+e.name.length+e.value.size+4<=e.size:=by rw [zz1.size_eq];omega
theorem zo5 {e x:zz1} (h:x∈e.args):x.size<=e.size:=by have:=y05 h;have:=zbv e;omega
theorem zcb (l:List zz1):l.length<=(l.map zz1.size).sum:=by
 induction l with
 |nil=>simp
 |cons x l ih=>have:=zbv x;simp;omega
theorem zva:∀e:zz1,z99 e<=e.size:=zxv λe ih=>by
 have:∀l:List zz1,(∀x,x∈l->x∈e.args)->yzu l<=(l.map zz1.size).sum:=λl=>by
  induction l with
  |nil=>intro _;simp [yzu]
  |cons x l ihl =>
   intro hl
   have:=ih x (hl x List.mem_cons_self)
   have:=ihl λy hy=>hl y (List.mem_cons_of_mem _ hy)
   simp [yzu];omega
 have:=this e.args λ_ h=>h
 have:=zbv e
 rw [zee];omega
theorem ytn:∀e:zz1,zi4 e<=z99 e:=zxv λe ih=>by
 have:∀l:List zz1,(∀x,x∈l->x∈e.args)->zl3 l<=1+yzu l:=λl=>by
  induction l with
  |nil=>intro _;simp [yzu,zl3]
  |cons x l ihl =>
   intro hl
   have:=ih x (hl x List.mem_cons_self)
   have:=ihl λy hy=>hl y (List.mem_cons_of_mem _ hy)
   simp [yzu,zl3];omega
 have:=this e.args λ_ h=>h
 rw [zee,y4g];omega
theorem ye3 (l:List zz1):yzu l<=(l.map zz1.size).sum:=by
 induction l with
 |nil=>simp [yzu]
 |cons x l ih=>have:=zva x;simp [yzu];omega
theorem yte:∀e:zz1,e.size<=8388608->Ev (λn=>zas n e) ((z99 e:Int),(zi4 e:Int)):=zxv λe ih hs=>by
 have hsl:=zbv e
 have hlen:=zcb e.args
 have loop:∀k,k<=e.args.length->∀d p:Nat,p+yzu (e.args.drop k)<=8388609->d<=8388609->Ev (λn=>z54 n (k:Int) (d:Int) (p:Int) e.args (e.args.length:Int)) (((p+yzu (e.args.drop k):Nat):Int),((max d (zl3 (e.args.drop k)):Nat):Int)) :=
  down (λd p hp hd=>by
   rw [zrg,Ev.kz1 (by simp),Ev.kz0]
   simp [yzu,zl3]) λk hk ihk d p hp hd=>by
   have hx:=List.getElem_mem hk
   have hsx:=zo5 hx
   rw [<-List.getElem_cons_drop (h:=hk)] at hp ⊢
   simp only [yzu,zl3] at hp ⊢
   have hpl:=zva e.args[k]
   have hdl:=ytn e.args[k]
   rw [zrg,Ev.yz1 (by simpa using hk),Ev.kz2 (yz6 hk),zz1.yz5,Ev.yz0 (ih _ hx (by omega)),wI (x:=_+1) (by omega),wI (x:=(zi4 _:Int)+1) (by omega),wI (x:=(p:Int)+_) (by omega)]
   have e1:(k:Int)+1=((k+1:Nat):Int):=by omega
   have e2:(zi4 e.args[k]:Int)+1=((1+zi4 e.args[k]:Nat):Int):=by omega
   have e3:(p:Int)+(z99 e.args[k]:Int)=((p+z99 e.args[k]:Nat):Int):=by omega
   rw [e1,e2,e3,yb7]
   refine (ihk (max d (1+zi4 e.args[k])) (p+z99 e.args[k]) (by omega) (by omega)).to ?_
   congr 2 <;> omega
 rw [y91]
 have hv:=ye3 e.args
 have:=loop 0 (Nat.zero_le _) 1 1 (by simp;omega) (by omega)
 refine this.to ?_
 rw [zee,y4g,List.drop_zero]
theorem y88:∀e:zz1,e.size<=8388608->Ev (λn=>z9e n e) (z99 e:Int):=zxv λe ih hs=>by
 have hsl:=zbv e
 have hlen:=zcb e.args
 rw [ydp,zz1.yz5,zee]
 have loop:∀k,k<=e.args.length->∀p:Nat,p+yzu (e.args.drop k)<=8388609->Ev (λn=>z6n n (k:Int) (p:Int) e) ((p+yzu (e.args.drop k):Nat):Int) :=
  down (λp hp=>by
   rw [zt9,Ev.kz1 (by simp),Ev.kz0]
   simp [yzu]) λk hk ihk p hp=>by
   have hx:=List.getElem_mem hk
   have hsx:=zo5 hx
   rw [<-List.getElem_cons_drop (h:=hk)] at hp ⊢
   simp only [yzu] at hp ⊢
   have hpl:=zva e.args[k]
   rw [zt9,Ev.yz1 (by simpa using hk),Ev.kz2 (yz6 hk),zz1.yz5,Ev.yz0 (ih _ hx (by omega)),wI (x:=_+1) (by omega),wI (x:=(p:Int)+_) (by omega)]
   have e1:(k:Int)+1=((k+1:Nat):Int):=by omega
   have e3:(p:Int)+(z99 e.args[k]:Int)=((p+z99 e.args[k]:Nat):Int):=by omega
   rw [e1,e3,zz1.yz5]
   refine (ihk (p+z99 e.args[k]) (by omega)).to ?_
   congr 1;omega
 have hv:=ye3 e.args
 exact loop 0 (Nat.zero_le _) 1 (by simp;omega)
theorem z004:∀e:zz1,e.size<=8388608->Ev (λn=>zdc n e) (zi4 e:Int):=zxv λe ih hs=>by
 have hsl:=zbv e
 have hlen:=zcb e.args
 rw [yji,zz1.yz5,y4g]
 have loop:∀k,k<=e.args.length->∀p:Nat,p<=8388609->Ev (λn=>z8o n (k:Int) (p:Int) e) ((max p (zl3 (e.args.drop k)):Nat):Int) :=
  down (λp hp=>by
   rw [ztx,Ev.kz1 (by simp),Ev.kz0]
   simp [zl3]) λk hk ihk p hp=>by
   have hx:=List.getElem_mem hk
   have hsx:=zo5 hx
   rw [<-List.getElem_cons_drop (h:=hk)]
   simp only [zl3]
   have hpl:=zva e.args[k]
   have hdl:=ytn e.args[k]
   rw [ztx,Ev.yz1 (by simpa using hk),Ev.kz2 (yz6 hk),zz1.yz5,Ev.yz0 (ih _ hx (by omega)),wI (x:=_+1) (by omega),wI (x:=1+_) (by omega)]
   have e1:(k:Int)+1=((k+1:Nat):Int):=by omega
   have e3:1+(zi4 e.args[k]:Int)=((1+zi4 e.args[k]:Nat):Int):=by omega
   rw [e1,e3,zz1.yz5,yb7]
   refine (ihk (max p (1+zi4 e.args[k])) (by omega)).to ?_
   congr 1;omega
 exact loop 0 (Nat.zero_le _) 1 (by omega)
def zbp (op:Int):Int :=
 if op=1∨op=2 then 0 else if (3<=op∧op<=10)∨op=13∨op=14∨op=17 then 2 else if op=11∨op=15∨op=16 then 1 else if op=12 then 3 else if op=18 then -1 else -2
theorem ops (op:Int):op=1∨op=2∨op=3∨op=4∨op=5∨op=6∨op=7∨op=8∨op=9∨op=10∨op=11∨op=12∨op=13∨op=14∨op=15∨op=16∨op=17∨op=18∨(op<1∨18<op):=by omega
theorem yxb {op:Int}:Ev (λn=>zg7 n op) (zbp op):=by
 rcases ops op with rfl|rfl|rfl|rfl|rfl|rfl|rfl|rfl|rfl|rfl|rfl|rfl|rfl|rfl|rfl|rfl|rfl|rfl|h
 case inr.inr.inr.inr.inr.inr.inr.inr.inr.inr.inr.inr.inr.inr.inr.inr.inr.inr =>
  have e:zbp op = -2:=by unfold zbp;rw [if_neg (by omega),if_neg (by omega),if_neg (by omega),if_neg (by omega),if_neg (by omega)]
  rw [e]
  have n (j:Int) (h1:1<=j) (h2:j<=18):(op==j)=false:=by simp;omega
  simp [y0y,zuw,zvb,zu0,zug,zv1,zux,Ev.pif,Ev.kz0,n]
 all_goals simp [y0y,zuw,zvb,zu0,zug,zv1,zux,Ev.pif,Ev.kz0,zbp]
theorem yxi {op:Int}:Ev (λn=>zg8 n op) (zbp op):=by
 rcases ops op with rfl|rfl|rfl|rfl|rfl|rfl|rfl|rfl|rfl|rfl|rfl|rfl|rfl|rfl|rfl|rfl|rfl|rfl|h
 case inr.inr.inr.inr.inr.inr.inr.inr.inr.inr.inr.inr.inr.inr.inr.inr.inr.inr =>
  have e:zbp op = -2:=by unfold zbp;rw [if_neg (by omega),if_neg (by omega),if_neg (by omega),if_neg (by omega),if_neg (by omega)]
  rw [e]
  have n (j:Int) (h1:1<=j) (h2:j<=18):(op==j)=false:=by simp;omega
  rw [y15,Ev.kz1 (n 1 (by omega) (by omega)),n 2 (by omega) (by omega),zuc,Ev.kz1 (by rfl)]
  have l1:Ev (λm=>z0i m op false) (-2):=by simp [zu5,zvj,Ev.pif,Ev.kz0,n]
  by_cases h3:op>=3
  ·rw [Ev.yz1 (by simpa using h3),Ev.kz1 (by simp;omega),Ev.kz1 (n 13 (by omega) (by omega)),Ev.kz1 (n 14 (by omega) (by omega)),n 17 (by omega) (by omega)];exact l1
  ·rw [Ev.kz1 (by simpa using h3),Ev.kz1 (n 13 (by omega) (by omega)),Ev.kz1 (n 14 (by omega) (by omega)),n 17 (by omega) (by omega)];exact l1
 all_goals simp [y15,zuc,zu5,zvj,Ev.pif,Ev.kz0,zbp]
noncomputable def yrt (op:Int) (v:yz2) (nm:List UInt8):Bool :=
 if op=1 then y2a v==0&&(v.kind != 4&&nm.isEmpty) else if op=2 then zw1 nm&&eqB v v0 else nm.isEmpty&&eqB v v0
def ys6 (op:Int) (k:Nat):Bool:=zbp op != -2&&(decide (zbp op<0)||(k:Int)==zbp op)
mutual
noncomputable def zo7:zz1->Bool
 |⟨op,v,nm,l⟩=>ys6 op l.length&&(yrt op v nm&&ze7 l)
noncomputable def ze7:List zz1->Bool
 |[]=>true
 |x::l=>zo7 x&&ze7 l
end
theorem yf7 (e:zz1):zo7 e=(ys6 e.op e.args.length&&(yrt e.op e.value e.name&&ze7 e.args)):=by cases e;rw [zo7]
theorem z00b (l:List zz1):ze7 l=l.all zo7:=by
 induction l with
 |nil=>rfl
 |cons x l ih=>simp [ze7,ih]
noncomputable def z3m (e:zz1):Int:=if 100<z99 e∨12<zi4 e then 4 else if zo7 e then 0 else 8
theorem z03b {e:zz1} (h:e.wf):e.value.wf:=by rw [zz1.z6u] at h;exact h.2.1
theorem z05t {e:zz1} (h:e.wf):∀x∈e.args,x.wf:=by rw [zz1.z6u] at h;exact h.2.2.2
theorem y8p (s:List UInt8):(!(s==[])) = !s.isEmpty:=by cases s <;> rfl
theorem z024:∀e:zz1,e.wf->e.size<=8388608->Ev (λn=>zfa n e) (zo7 e):=zxv λe ih hw hs=>by
 have hsl:=zbv e
 have hlen:=zcb e.args
 have idx:∀k,k<=e.args.length->∃i:Int,Ev (λn=>yzc n (k:Int) e.args (e.args.length:Int)) i∧decide (i>=0) = !ze7 (e.args.drop k) :=
  down ⟨-1,by rw [z19,Ev.kz1 (by simp),Ev.kz0],by simp [ze7]⟩ λk hk ihk=>by
   have hx:=List.getElem_mem hk
   have hsx:=zo5 hx
   have hf1:Ev (λn=>zep n e.args[k]) (!zo7 e.args[k]):=by
    rw [ydg,zz1.yz5,Ev.yz0 (ih _ hx (z05t hw _ hx) (by omega)),Ev.kz0]
   obtain ⟨i,h1,h2⟩:=ihk
   rw [<-List.getElem_cons_drop (h:=hk),ze7]
   cases hf:zo7 e.args[k]
   ·refine ⟨k,?_,by simp⟩
    rw [z19,Ev.yz1 (by simpa using hk),Ev.kz2 (yz6 hk),zz1.yz5,Ev.yz0 hf1,Ev.yz1 (by rw [hf];rfl),Ev.kz0]
   ·refine ⟨i,?_,by rw [h2];rfl⟩
    rw [z19,Ev.yz1 (by simpa using hk),Ev.kz2 (yz6 hk),zz1.yz5,Ev.yz0 hf1,Ev.kz1 (by rw [hf];rfl),wrk (by omega)]
    exact h1
 have l4:Ev (λn=>z7i n e) (ze7 e.args):=by
  obtain ⟨i,h1,h2⟩:=idx 0 (Nat.zero_le _)
  have hi:Ev (λn=>yzj n e.args) i:=by rw [zgh];exact h1
  have hc:Ev (λn=>zzh n e.args) (!ze7 e.args):=by
   rw [zeu,Ev.yz0 hi,Ev.kz0,h2];rfl
  rw [y9k,Ev.yz0 hc,Ev.kz0,Bool.not_not]
 have l1:∀b,Ev (λn=>z7f n b e) (!b&&ze7 e.args):=λb=>by
  rw [y8x];cases b
  ·rw [Ev.kz1 (by rfl),zz1.yz5];exact l4
  ·rw [Ev.yz1 (by rfl),Ev.kz0];rfl
 have l2:∀b,Ev (λn=>za2 n b e) (!b&&ze7 e.args):=λb=>by
  rw [y9x];cases b
  ·rw [Ev.kz1 (by rfl),zz1.yz5];exact l4
  ·rw [Ev.yz1 (by rfl),Ev.kz0];rfl
 have l3:∀b,Ev (λn=>zac n b e) (!b&&ze7 e.args):=λb=>by
  rw [yaj];cases b
  ·rw [Ev.kz1 (by rfl),zz1.yz5];exact l4
  ·rw [Ev.yz1 (by rfl),Ev.kz0];rfl
 have l0:∀b,Ev (λn=>z7h n b e) (!b&&(yrt e.op e.value e.name&&ze7 e.args)):=λb=>by
  rw [y8z];cases b
  case true=>rw [Ev.yz1 (by rfl),Ev.kz0];rfl
  rw [Ev.kz1 (by rfl)]
  have hsame:Ev (λn=>z4a n e.value (yz2.mk 0 (zz7.mk 0 0) false [] [])) (eqB e.value v0):=yct e.value v0 (by omega)
  by_cases h1:e.op=1
  ·rw [Ev.yz1 (by simpa using h1),yz2.yz5,Ev.yz0 (yvl (z03b hw) (by omega)),zz1.yz5,y8p]
   simp only [yrt,if_pos h1]
   by_cases hc:y2a e.value=0
   ·rw [Ev.kz1 (by simpa using hc)]
    by_cases hk:e.value.kind=4
    ·rw [Ev.yz1 (by simpa using hk)]
     refine (l1 true).to ?_;simp [hc,hk]
    ·rw [Ev.kz1 (by simpa using hk)]
     have hk':(e.value.kind != 4)=true:=by simpa using hk
     refine (l1 _).to ?_;simp [hc,hk']
   ·rw [Ev.yz1 (by simpa using hc)]
    refine (l1 true).to ?_;simp [hc]
  rw [Ev.kz1 (by simpa using h1)]
  by_cases h2:e.op=2
  ·rw [Ev.yz1 (by simpa using h2),Ev.yz0 (yy9 (by omega)),yz2.yz5,zz1.yz5]
   simp only [yrt,if_neg h1,if_pos h2]
   cases hn:zw1 e.name
   ·rw [Ev.yz1 (by rfl)]
    exact (l2 true).to (by simp)
   ·rw [Ev.kz1 (by rfl),Ev.yz0 hsame]
    exact (l2 _).to (by simp)
  ·rw [Ev.kz1 (by simpa using h2),y8p,yz2.yz5,zz1.yz5]
   simp only [yrt,if_neg h1,if_neg h2]
   cases hn:e.name.isEmpty
   ·rw [Ev.yz1 (by rfl)]
    exact (l3 true).to (by simp)
   ·rw [Ev.kz1 (by rfl),Ev.yz0 hsame]
    exact (l3 _).to (by simp)
 rw [yq0,Ev.yz0 yxb,yf7,zz1.yz5]
 unfold ys6
 by_cases c1:zbp e.op = -2
 ·rw [Ev.yz1 (by simpa using c1)]
  exact (l0 true).to (by simp [c1])
 rw [Ev.kz1 (by simpa using c1)]
 by_cases c2:zbp e.op>=0
 ·rw [Ev.yz1 (by simpa using c2)]
  refine (l0 _).to ?_
  rw [show decide (zbp e.op<0)=false by simpa using c2,show (zbp e.op != -2)=true by simpa using c1]
  simp only [bne,Bool.not_not,Bool.true_and,Bool.false_or]
 ·rw [Ev.kz1 (by simpa using c2)]
  refine (l0 _).to ?_
  rw [show decide (zbp e.op<0)=true by simp;omega,show (zbp e.op != -2)=true by simpa using c1]
  simp
theorem yy7:∀e:zz1,e.size<=8388608->Ev (λn=>zdd n e) (zo7 e):=zxv λe ih hs=>by
 have hsl:=zbv e
 have hlen:=zcb e.args
 have loop:∀k,k<=e.args.length->Ev (λn=>z8b n (k:Int) e) (ze7 (e.args.drop k)) :=
  down (by rw [zu4,Ev.kz1 (by simp),Ev.kz0];simp [ze7]) λk hk ihk=>by
   have hx:=List.getElem_mem hk
   have hsx:=zo5 hx
   rw [<-List.getElem_cons_drop (h:=hk),ze7]
   rw [zu4,Ev.yz1 (by simpa using hk),Ev.kz2 (yz6 hk),zz1.yz5,Ev.yz0 (ih _ hx (by omega))]
   cases hf:zo7 e.args[k]
   ·rw [Ev.yz1 (by rfl),Ev.kz0];rfl
   ·rw [Ev.kz1 (by rfl),wrk (by omega),zz1.yz5,Bool.true_and];exact ihk
 have l2:∀b,Ev (λn=>z1t n b e) (!b&&ze7 e.args):=λb=>by
  rw [y5n];cases b
  ·rw [Ev.kz1 (by rfl),zz1.yz5];exact loop 0 (Nat.zero_le _)
  ·rw [Ev.yz1 (by rfl),Ev.kz0];rfl
 have hgn:decide ((e.name.length:Int)>0) = !e.name.isEmpty:=by cases e.name <;> simp
 have l1:∀b,Ev (λn=>z14 n b e) (!b&&((if e.op=2 then zw1 e.name else e.name.isEmpty)&&ze7 e.args)):=λb=>by
  rw [y6n];cases b
  case true=>rw [Ev.yz1 (by rfl),Ev.kz0];rfl
  rw [Ev.kz1 (by rfl),zz1.yz5,hgn]
  by_cases h2:e.op=2
  ·rw [Ev.yz1 (by simpa using h2),if_pos h2,Ev.yz0 (yvr (by omega))]
   cases hn:zw1 e.name
   ·rw [Ev.yz1 (by rfl)];exact (l2 true).to (by simp)
   ·rw [Ev.kz1 (by rfl),Ev.kz1 (by simpa using h2)];exact (l2 false).to (by simp)
  ·rw [Ev.kz1 (by simpa using h2),Ev.yz1 (by simpa using h2),if_neg h2];exact (l2 _).to (by simp)
 have l0:∀b,Ev (λn=>z5c n b e) (!b&&(yrt e.op e.value e.name&&ze7 e.args)):=λb=>by
  rw [y65];cases b
  case true=>rw [Ev.yz1 (by rfl),Ev.kz0];rfl
  rw [Ev.kz1 (by rfl),yz2.yz5,zz1.yz5]
  have hsame:Ev (λn=>z45 n e.value (yz2.mk 0 (zz7.mk 0 0) false [] [])) (eqB e.value v0):=yfi e.value v0 (by omega)
  by_cases h1:e.op=1
  ·rw [Ev.yz1 (by simpa using h1),Ev.yz0 (yx0 (by omega))]
   simp only [yrt,if_pos h1]
   by_cases hc:y2a e.value=0
   ·rw [Ev.kz1 (by simpa using hc)]
    by_cases hk:e.value.kind=4
    ·rw [Ev.yz1 (by simpa using hk)]
     refine (l1 true).to ?_;simp [hc,hk]
    ·rw [Ev.kz1 (by simpa using hk),Ev.kz1 (by simpa using h1)]
     have hk':(e.value.kind != 4)=true:=by simpa using hk
     refine (l1 _).to ?_;simp [hc,hk',h1]
   ·rw [Ev.yz1 (by simpa using hc)]
    refine (l1 true).to ?_;simp [hc]
  ·rw [Ev.kz1 (by simpa using h1),Ev.yz1 (by simpa using h1),Ev.yz0 hsame]
   refine (l1 _).to ?_
   simp only [yrt,if_neg h1]
   split
   ·cases eqB e.value v0 <;> cases zw1 e.name <;> simp
   ·cases eqB e.value v0 <;> cases e.name.isEmpty <;> simp
 rw [yk7,Ev.yz0 yxi,yf7,zz1.yz5]
 unfold ys6
 by_cases c1:zbp e.op = -2
 ·rw [Ev.yz1 (by simpa using c1)]
  exact (l0 true).to (by simp [c1])
 rw [Ev.kz1 (by simpa using c1)]
 by_cases c2:zbp e.op>=0
 ·rw [Ev.yz1 (by simpa using c2)]
  refine (l0 _).to ?_
  rw [show decide (zbp e.op<0)=false by simpa using c2,show (zbp e.op != -2)=true by simpa using c1]
  simp only [bne,Bool.not_not,Bool.true_and,Bool.false_or]
 ·rw [Ev.kz1 (by simpa using c2)]
  refine (l0 _).to ?_
  rw [show decide (zbp e.op<0)=true by simp;omega,show (zbp e.op != -2)=true by simpa using c1]
  simp
theorem zwl {e:zz1} (hw:e.wf) (hs:e.size<=8388608):Ev (λn=>z4d n e) (z3m e):=by
 have l0:∀b,Ev (λn=>z8v n b e) (if b then 4 else if zo7 e then 0 else 8):=λb=>by
  rw [y6i]
  cases b
  ·rw [Ev.kz1 (by rfl),zz1.yz5,Ev.yz0 (z024 e hw hs)]
   cases zo7 e
   ·rw [Ev.yz1 (by rfl),Ev.kz0];rfl
   ·rw [Ev.kz1 (by rfl),Ev.kz0];rfl
  ·rw [Ev.yz1 (by rfl),Ev.kz0];rfl
 rw [yhr,zz1.yz5,Ev.yz0 (yte e hs)]
 unfold z3m
 simp only [Ev.pif]
 by_cases h1:100<z99 e
 ·rw [if_pos (by simp;omega),if_pos (.inl h1)];exact l0 true
 ·rw [if_neg (by simp;omega)]
  by_cases h2:12<zi4 e
  ·rw [if_pos (.inr h2),show decide ((zi4 e:Int)>12)=true by simp;omega];exact l0 true
  ·rw [if_neg (by omega),show decide ((zi4 e:Int)>12)=false by simp;omega];exact l0 false
theorem zld {e:zz1} (hs:e.size<=8388608):Ev (λn=>z32 n e) (z3m e):=by
 have l0:∀b,Ev (λn=>z6a n b e) (if b then 4 else if zo7 e then 0 else 8):=λb=>by
  rw [y45]
  cases b
  ·rw [Ev.kz1 (by rfl),zz1.yz5,Ev.yz0 (yy7 e hs)]
   cases zo7 e
   ·rw [Ev.yz1 (by rfl),Ev.kz0];rfl
   ·rw [Ev.kz1 (by rfl),Ev.kz0];rfl
  ·rw [Ev.yz1 (by rfl),Ev.kz0];rfl
 rw [yfa,zz1.yz5,Ev.yz0 (y88 e hs)]
 unfold z3m
 by_cases h1:100<z99 e
 ·rw [Ev.yz1 (by simp;omega),if_pos (.inl h1)];exact l0 true
 ·rw [Ev.kz1 (by simp;omega),Ev.yz0 (z004 e hs)]
  by_cases h2:12<zi4 e
  ·rw [if_pos (.inr h2),show decide ((zi4 e:Int)>12)=true by simp;omega];exact l0 true
  ·rw [if_neg (by omega),show decide ((zi4 e:Int)>12)=false by simp;omega];exact l0 false
theorem zyh {e:zz1} (h:z3m e=0):zo7 e=true∧z99 e<=100∧zi4 e<=12:=by
 unfold z3m at h
 split at h
 ·cases h
 ·split at h
  ·exact ⟨‹_›,by omega,by omega⟩
  ·cases h
theorem yu9:∀e:zz1,e.size<=8388608->∀d:Int,∃b,Ev (λn=>zbo n e d) b:=zxv λe ih hs d=>by
 have hsl:=zbv e
 have hlen:=zcb e.args
 have loop:∀k,k<=e.args.length->∀d:Int,∃b,Ev (λn=>z6j n (k:Int) d e) b :=
  down (λd=>⟨false,by rw [zsz,Ev.kz1 (by simp),Ev.kz0]⟩) λk hk ihk d=>by
   have hx:=List.getElem_mem hk
   have hsx:=zo5 hx
   obtain ⟨b,hb⟩:=ih _ hx (by omega) (IntKind.i64.wrap (d-1))
   obtain ⟨c,hc⟩:=ihk d
   refine ⟨if b then true else c,?_⟩
   rw [zsz,Ev.yz1 (by simpa using hk),Ev.kz2 (yz6 hk),zz1.yz5,Ev.yz0 hb,zz1.yz5,wrk (by omega)]
   cases b
   ·rw [Ev.kz1 (by rfl)];exact hc
   ·rw [Ev.yz1 (by rfl),Ev.kz0];rfl
 have l0:∀d b,∃c,Ev (λn=>z2f n d b e) c:=λd b=>by
  cases b
  ·obtain ⟨c,hc⟩:=loop 0 (Nat.zero_le _) d
   exact ⟨c,by rw [zs4,Ev.kz1 (by rfl),zz1.yz5];exact hc⟩
  ·exact ⟨true,by rw [zs4,Ev.yz1 (by rfl),Ev.kz0]⟩
 obtain ⟨g,hg⟩:=ywz (v:=e.value) (by omega)
 simp only [yc4,zz1.yz5,yz2.yz5,Ev.pif,Ev.yz0 hg]
 split
 ·exact l0 _ _
 split
 ·exact l0 _ _
 split
 ·exact l0 _ _
 ·exact l0 _ _
theorem zt2 {e:zz1} (hs:e.size<=8388608):∃b,Ev (λn=>z6h n e) b:=by
 obtain ⟨b,hb⟩:=yu9 e hs 16
 cases b
 ·exact ⟨_,by rw [zy5,zz1.yz5,Ev.yz0 hb,Ev.kz1 (by rfl),Ev.yz0 (y88 e hs)];exact Ev.kz0.2 rfl⟩
 ·exact ⟨true,by rw [zy5,zz1.yz5,Ev.yz0 hb,Ev.yz1 (by rfl),Ev.kz0]⟩
end Go.Proofs.YtahcjggdcmgpkaaGreat
namespace Go.Proofs.YtahcjggdcmgpkaaGreat
open Go Go.Ab
set_option linter.unusedVariables false
set_option linter.unusedSimpArgs false
theorem zyo (l:List zz1):l.length<=yzu l:=by
 induction l with
 |nil=>simp
 |cons x l ih=>have:=zee x;simp [yzu];omega
theorem ywb {l:List zz1} {x:zz1} (h:x∈l):z99 x<=yzu l:=by
 induction l with
 |nil=>cases h
 |cons y l ih =>
  rcases List.mem_cons.1 h with rfl|h
  · simp [yzu]
  · have:=ih h;simp [yzu];omega
mutual
def zr3:zz1->List (List UInt8)->List (List UInt8)
 |⟨op,_,nm,l⟩,acc=>zfo l (if op=2∧nm∉acc then acc++[nm] else acc)
def zfo:List zz1->List (List UInt8)->List (List UInt8)
 |[],acc=>acc
 |x::l,acc=>zfo l (zr3 x acc)
end
theorem y5l (e:zz1) (acc:List (List UInt8)):zr3 e acc=zfo e.args (if e.op=2∧e.name∉acc then acc++[e.name] else acc):=by cases e;rw [zr3]
mutual
def zn8:zz1->List (List UInt8)->List (List UInt8)
 |⟨op,_,nm,l⟩,acc=>z7u l (if op=2 then ins acc nm else acc)
def z7u:List zz1->List (List UInt8)->List (List UInt8)
 |[],acc=>acc
 |x::l,acc=>z7u l (zn8 x acc)
end
theorem zuv (e:zz1) (acc:List (List UInt8)):zn8 e acc=z7u e.args (if e.op=2 then ins acc e.name else acc):=by cases e;rw [zn8]
theorem yvy:∀(e:zz1) (a b:List (List UInt8)),a.Nodup->zdk b->(∀x,x∈a↔x∈b)->(zr3 e a).Nodup∧zdk (zn8 e b)∧(∀x,x∈zr3 e a↔x∈zn8 e b)∧(zr3 e a).length<=a.length+z99 e∧(zn8 e b).length<=b.length+z99 e:=zxv λe ih a b ha hb hab=>by
 have hL:∀(l:List zz1),(∀x∈l,x∈e.args)->∀a b:List (List UInt8),a.Nodup->zdk b->(∀x,x∈a↔x∈b)->(zfo l a).Nodup∧zdk (z7u l b)∧(∀x,x∈zfo l a↔x∈z7u l b)∧(zfo l a).length<=a.length+yzu l∧(z7u l b).length<=b.length+yzu l:=λl=>by
  induction l with
  |nil=>intro _ a b ha hb hab;simp only [zfo,z7u,yzu];exact ⟨ha,hb,hab,Nat.le_refl _,Nat.le_refl _⟩
  |cons x l ihl =>
   intro hm a b ha hb hab
   obtain ⟨h1,h2,h3,h4,h5⟩:=ih x (hm x List.mem_cons_self) a b ha hb hab
   obtain ⟨k1,k2,k3,k4,k5⟩:=ihl (λy hy=>hm y (List.mem_cons_of_mem _ hy)) _ _ h1 h2 h3
   simp only [zfo,z7u,yzu]
   exact ⟨k1,k2,k3,by omega,by omega⟩
 rw [y5l,zuv,zee]
 by_cases h2:e.op=2
 ·rw [if_pos h2]
  by_cases hn:e.name∈a
  ·rw [if_neg (by simp [hn])]
   obtain ⟨k1,k2,k3,k4,k5⟩:=hL e.args (λ_ h=>h) a (ins b e.name) ha (znl hb) (λx=>by
    rw [znz,<-hab]
    exact ⟨.inl,λh=>h.elim id λh=>by rw [h];exact hn⟩)
   have:=y0b e.name b
   exact ⟨k1,k2,k3,by omega,by omega⟩
  ·rw [if_pos ⟨h2,hn⟩]
   obtain ⟨k1,k2,k3,k4,k5⟩:=hL e.args (λ_ h=>h) (a++[e.name]) (ins b e.name) (by
    rw [List.nodup_append]
    refine ⟨ha,by simp,λx hx y hy => ?_⟩
    rw [List.mem_singleton.1 hy];intro h;subst h;exact hn hx) (znl hb) (λx=>by
    rw [znz,<-hab,List.mem_append,List.mem_singleton])
   have:=y0b e.name b
   rw [List.length_append,List.length_singleton] at k4
   exact ⟨k1,k2,k3,by omega,by omega⟩
 ·rw [if_neg h2,if_neg (λh=>h2 h.1)]
  obtain ⟨k1,k2,k3,k4,k5⟩:=hL e.args (λ_ h=>h) a b ha hb hab
  exact ⟨k1,k2,k3,by omega,by omega⟩
theorem yux (e:zz1):z02 (zr3 e [])=zn8 e []:=by
 obtain ⟨h1,h2,h3,_⟩:=yvy e [] [] (by simp) (by simp [zdk]) (by simp)
 exact zji (zif h1) h2 λx=>by rw [(zdj _).mem_iff,h3]
theorem yex:∀(e:zz1) (a:List (List UInt8)),(zr3 e a).length<=a.length+z99 e:=zxv λe ih a=>by
 have hL:∀(l:List zz1),(∀x∈l,x∈e.args)->∀a:List (List UInt8),(zfo l a).length<=a.length+yzu l:=λl=>by
  induction l with
  |nil=>intro _ a;simp [zfo,yzu]
  |cons x l ihl =>
   intro hm a
   have h1:=ih x (hm x List.mem_cons_self) a
   have h2:=ihl (λy hy=>hm y (List.mem_cons_of_mem _ hy)) (zr3 x a)
   simp only [zfo,yzu];omega
 rw [y5l,zee]
 have:=hL e.args (λ_ h=>h) (if e.op=2∧e.name∉a then a++[e.name] else a)
 have h2:(if e.op=2∧e.name∉a then a++[e.name] else a).length<=a.length+1:=by split <;> simp
 omega
theorem ynj:∀(e:zz1) (a:List (List UInt8)),(zn8 e a).length<=a.length+z99 e:=zxv λe ih a=>by
 have hL:∀(l:List zz1),(∀x∈l,x∈e.args)->∀a:List (List UInt8),(z7u l a).length<=a.length+yzu l:=λl=>by
  induction l with
  |nil=>intro _ a;simp [z7u,yzu]
  |cons x l ihl =>
   intro hm a
   have h1:=ih x (hm x List.mem_cons_self) a
   have h2:=ihl (λy hy=>hm y (List.mem_cons_of_mem _ hy)) (zn8 x a)
   simp only [z7u,yzu];omega
 rw [zuv,zee]
 have hi:=y0b e.name a
 have:=hL e.args (λ_ h=>h) (if e.op=2 then ins a e.name else a)
 split at this
 ·rename_i h;rw [if_pos h];omega
 ·rename_i h;rw [if_neg h];omega
theorem z01w {l:List (List UInt8)} (hl:l.length<=8388608) {s:List UInt8}:∃i:Int,Ev (λn=>zzw n s l) (i,l)∧decide (i>=0)=decide (s∈l):=by
 have loop:∀k,k<=l.length->∃i:Int,Ev (λn=>yzl n (k:Int) s (l.length:Int) l) (i,l)∧decide (i>=0)=decide (s∈l.drop k) :=
  down ⟨-1,by rw [z4e,Ev.kz1 (by simp),Ev.kz0],by simp⟩ λk hk ih=>by
   obtain ⟨i,h1,h2⟩:=ih
   by_cases he:s=l[k]
   ·refine ⟨k,?_,?_⟩
    ·rw [z4e,Ev.yz1 (by simpa using hk),Ev.kz2 (yz6 hk),Ev.yz1 (by simpa using he),Ev.kz0]
    ·have:s∈l.drop k:=by rw [<-List.getElem_cons_drop (h:=hk),he];exact List.mem_cons_self
     simp [this]
   ·refine ⟨i,?_,?_⟩
    ·rw [z4e,Ev.yz1 (by simpa using hk),Ev.kz2 (yz6 hk),Ev.kz1 (by simpa using he),wrk (by omega)];exact h1
    ·rw [h2]
     have:(s∈l.drop k)↔(s∈l.drop (k+1)):=by
      rw [<-List.getElem_cons_drop (h:=hk),List.mem_cons]
      exact ⟨λh=>h.elim (λh=>(he h).elim) id,.inr⟩
     exact decide_eq_decide.2 this.symm
 obtain ⟨i,h1,h2⟩:=loop 0 (Nat.zero_le _)
 exact ⟨i,by rw [zmw];exact h1,by simpa using h2⟩
theorem z003:∀(e:zz1) (acc:List (List UInt8)),acc.length+z99 e<=8388608->Ev (λn=>zd4 n e acc) (zr3 e acc):=zxv λe ih acc hb=>by
 rw [zee] at hb
 have loop:∀k,k<=e.args.length->∀acc:List (List UInt8),acc.length+yzu (e.args.drop k)<=8388608->Ev (λn=>z8t n (k:Int) e.args (e.args.length:Int) acc) (zfo (e.args.drop k) acc) :=
  down (λacc hb=>by rw [zv2,Ev.kz1 (by simp),Ev.kz0];simp [zfo]) λk hk ihk acc hb=>by
   have hx:=List.getElem_mem hk
   have hlen:=zyo e.args
   rw [<-List.getElem_cons_drop (h:=hk)] at hb ⊢
   simp only [zfo,yzu] at hb ⊢
   have:=yex e.args[k] acc
   have hk2:k<=8388609:=by
    have:=zyo e.args;omega
   rw [zv2,Ev.yz1 (by simpa using hk),Ev.kz2 (yz6 hk),zz1.yz5,Ev.yz0 (ih _ hx _ (by omega)),wrk (by omega)]
   exact ihk _ (by omega)
 have l1:∀acc:List (List UInt8),acc.length+yzu e.args<=8388608->Ev (λn=>z8i n acc e) (zfo e.args acc):=λacc hb=>by
  rw [y7n];simpa using loop 0 (Nat.zero_le _) acc (by simpa using hb)
 rw [yj9,y5l]
 by_cases h2:e.op=2
 ·obtain ⟨i,h3,h4⟩:=z01w (l:=acc) (by omega) (s:=e.name)
  have hc:Ev (λn=>zzr n e.name acc) (decide (e.name∈acc),acc):=by
   rw [zjq,Ev.yz0 h3,Ev.kz0,h4]
  rw [Ev.yz1 (by simpa using h2),Ev.yz0 hc,zz1.yz5,zv4]
  by_cases hn:e.name∈acc
  ·rw [Ev.kz1 (by simpa using hn),if_neg (by simp [hn]),zz1.yz5]
   exact l1 acc (by omega)
  ·rw [Ev.yz1 (by simpa using hn),if_pos ⟨h2,hn⟩,Ev.kz2 (z1j (by simp;omega)),zz1.yz5]
   exact l1 _ (by simp;omega)
 ·rw [Ev.kz1 (by simpa using h2),if_neg (λh=>h2 h.1),zz1.yz5,zv4,Ev.kz1 (by rfl),zz1.yz5]
  exact l1 _ (by omega)
theorem y2t {α:Type} {p:α->Bool}:∀{l:List α},(∀x∈l,p x=true)->l.takeWhile p=l∧l.dropWhile p=[]
 |[],_=>⟨rfl,rfl⟩
 |x::l,h=>by
  have hx:=h x List.mem_cons_self
  obtain ⟨h1,h2⟩:=y2t (l:=l) λy hy=>h y (List.mem_cons_of_mem _ hy)
  rw [List.takeWhile_cons_of_pos hx,List.dropWhile_cons_of_pos hx,h1,h2];exact ⟨rfl,rfl⟩
theorem ynh {l:List (List UInt8)} {k:Nat} (hk:k<=l.length) (s:List UInt8) :
  zys (l++[[]]) ((k+1:Nat):Int) (k:Int)=some (l.take k++[(l++[[]])[k]'(by simp;omega)]++l.drop k)∧((l.take k++[(l++[[]])[k]'(by simp;omega)]++l.drop k).set k s=l.take k++s::l.drop k):=by
 constructor
 ·unfold zys
  rw [if_pos (by simp;omega)]
  congr 1
  have e1:((k+1:Nat):Int).toNat=k+1:=by simp
  have e2:((k:Nat):Int).toNat=k:=by simp
  rw [e1,e2]
  have e3:min ((l++[[]]).length-k) ((l++[[]]).length-(k+1))=l.length-k:=by simp;omega
  rw [e3,show k+1+(l.length-k)=l.length+1 by omega]
  have e4:(l++[[]]).drop (l.length+1)=[]:=List.drop_of_length_le (by simp)
  have e5:((l++[[]]).drop k).take (l.length-k)=l.drop k:=by
   rw [List.drop_append_of_le_length hk,List.take_append_of_le_length (by simp),List.take_of_length_le (by simp)]
  have e6:(l++[[]]).take (k+1)=l.take k++[(l++[[]])[k]'(by simp;omega)]:=by
   have hlt:k<(l++[[]]).length:=by simp;omega
   rw [<-zbb hlt,List.take_append_of_le_length hk]
  rw [e4,e5,e6,List.append_nil]
 ·have hl:(l.take k).length=k:=by simp;omega
  rw [List.append_assoc,List.set_append,if_neg (by omega),hl,Nat.sub_self];rfl
theorem yxy:∀(e:zz1) (acc:List (List UInt8)),acc.length+z99 e<=8388608->Ev (λn=>zdu n e acc) (zn8 e acc):=zxv λe ih acc hb=>by
 rw [zee] at hb
 have loop:∀k,k<=e.args.length->∀acc:List (List UInt8),acc.length+yzu (e.args.drop k)<=8388608->Ev (λn=>z8m n (k:Int) acc e) (z7u (e.args.drop k) acc) :=
  down (λacc hb=>by rw [zv6,Ev.kz1 (by simp),Ev.kz0];simp [z7u]) λk hk ihk acc hb=>by
   have hx:=List.getElem_mem hk
   have hlen:=zyo e.args
   rw [<-List.getElem_cons_drop (h:=hk)] at hb ⊢
   simp only [z7u,yzu] at hb ⊢
   have:=ynj e.args[k] acc
   rw [zv6,Ev.yz1 (by simpa using hk),Ev.kz2 (yz6 hk),zz1.yz5,Ev.yz0 (ih _ hx _ (by omega)),wrk (by omega),zz1.yz5]
   exact ihk _ (by omega)
 have l3:∀acc:List (List UInt8),acc.length+yzu e.args<=8388608->Ev (λn=>z5f n acc e) (z7u e.args acc):=λacc hb=>by
  rw [y6m,zz1.yz5];simpa using loop 0 (Nat.zero_le _) acc (by simpa using hb)
 rw [ylb,zz1.yz5,zuv]
 by_cases h2:e.op=2
 case neg=>rw [Ev.kz1 (by simpa using h2),if_neg h2];exact l3 _ (by omega)
 rw [Ev.yz1 (by simpa using h2),if_pos h2]
 have hil:=y0b e.name acc
 have fin:∀k,k<=acc.length->acc.takeWhile (λx=>Op.bytesLess x e.name)=acc.take k->acc.dropWhile (λx=>Op.bytesLess x e.name)=acc.drop k->Ev (λn=>z8n n (k:Int) false e acc) (z7u e.args (ins acc e.name)):=λk hk ht hd=>by
  have hins:=ysl e.name acc
  rw [ht,hd] at hins
  have put:ins acc e.name=acc.take k++e.name::acc.drop k->Ev (λn=>z8y n (k:Int) true e acc) (z7u e.args (ins acc e.name)):=λhi=>by
   obtain ⟨s1,s2⟩:=ynh hk e.name
   have hx:ext acc [[]]=some (acc++[[]]):=z1j (by simp;omega)
   have hc1:y49 (acc++[[]]) ((k+1:Nat):Int)=some ():=by unfold y49;rw [if_pos (by simp;omega)]
   have hc2:y49 (acc++[[]]) (k:Int)=some ():=by unfold y49;rw [if_pos (by simp;omega)]
   have hg:ix (acc.take k++[(acc++[[]])[k]'(by simp;omega)]++acc.drop k) (k:Int)=some ((acc++[[]])[k]'(by simp;omega)):=by
    rw [z00i,List.append_assoc,List.getElem?_append_right (by simp;omega)]
    simp [Nat.min_eq_left hk]
   rw [zuh,Ev.yz1 (by rfl),Ev.kz2 hx,wrk (by omega),Ev.kz2 hc1,Ev.kz2 hc2,Ev.kz2 s1,Ev.kz2 hg,zz1.yz5,Int.toNat_natCast,s2,<-hi]
   exact l3 _ (by omega)
  rw [zvz,Ev.kz1 (by rfl),zz1.yz5]
  by_cases he:k=acc.length
  ·rw [Ev.yz1 (by simp;omega)]
   exact put (by rw [hins,if_neg (by rw [List.drop_of_length_le (by omega)];simp)])
  ·have hlt:k<acc.length:=by omega
   rw [Ev.kz1 (by simp;omega),Ev.kz2 (yz6 hlt)]
   have hhead:(acc.drop k).head?=some acc[k]:=by rw [<-List.getElem_cons_drop (h:=hlt)];rfl
   by_cases heq:acc[k]=e.name
   ·rw [show (!(acc[k]==e.name))=false by simpa using heq,zuh,Ev.kz1 (by rfl),zz1.yz5]
    have:ins acc e.name=acc:=by rw [hins,if_pos (by rw [hhead,heq])]
    rw [this]
    exact l3 _ (by omega)
   ·rw [show (!(acc[k]==e.name))=true by simpa using heq]
    exact put (by rw [hins,if_neg (by rw [hhead];simpa using heq)])
 have place:∀k,k<=acc.length->(acc.take k).all (λx=>Op.bytesLess x e.name)=true->Ev (λn=>z56 n (k:Int) e acc) (z7u e.args (ins acc e.name)) :=
  down (Q:=λk=>(acc.take k).all (λx=>Op.bytesLess x e.name)=true->Ev (λn=>z56 n (k:Int) e acc) (z7u e.args (ins acc e.name))) (λhall=>by
   rw [List.take_length] at hall
   rw [List.all_eq_true] at hall
   rw [zv0,Ev.kz1 (by simp),zz1.yz5]
   refine fin _ (Nat.le_refl _) ?_ ?_
   ·rw [List.take_length];exact (y2t hall).1
   ·rw [List.drop_length];exact (y2t hall).2) λk hk ihk hall=>by
   have hsplit:acc=acc.take k++acc.drop k:=(List.take_append_drop k acc).symm
   rw [zv0,Ev.yz1 (by simpa using hk),Ev.kz2 (yz6 hk),zz1.yz5]
   cases hb:Op.bytesLess acc[k] e.name
   ·rw [List.all_eq_true] at hall
    refine fin k (by omega) ?_ ?_
    ·conv=>lhs;rw [hsplit]
     rw [List.takeWhile_append_of_pos hall,<-List.getElem_cons_drop (h:=hk),List.takeWhile_cons_of_neg (by simp [hb]),List.append_nil]
    ·conv=>lhs;rw [hsplit]
     rw [List.dropWhile_append_of_pos hall,<-List.getElem_cons_drop (h:=hk),List.dropWhile_cons_of_neg (by simp [hb])]
   ·rw [zvz,Ev.yz1 (by rfl),wrk (by omega),zz1.yz5]
    refine ihk ?_
    rw [<-zbb hk,List.all_append,hall];simp [hb]
 exact place 0 (Nat.zero_le _) (by simp)
noncomputable def z5j (e:zz1):List (List UInt8)×Int:=if z3m e≠0 then ([],z3m e) else (zn8 e [],0)
theorem yco {e:zz1} (hw:e.wf) (hs:e.size<=8388608):Ev (λn=>zdh n e) (z5j e):=by
 rw [yi3,zz1.yz5,Ev.yz0 (zwl hw hs)]
 unfold z5j
 by_cases hc:z3m e=0
 case neg=>rw [Ev.yz1 (by simpa using hc),Ev.kz0,if_pos hc]
 obtain ⟨_,hp,_⟩:=zyh hc
 have hl:=yex e []
 have hsort:Ev (λn=>z0j n (zr3 e [])) (zn8 e []):=by
  refine .same (λn => ?_) (.pure rfl)
  unfold z0j
  rw [if_pos (by simp at hl;omega),yux]
 rw [Ev.kz1 (by simpa using hc),if_neg (by simpa using hc),Ev.yz0 (z003 e [] (by simp;omega)),Ev.yz0 hsort,Ev.kz0]
theorem y87 {e:zz1} (hs:e.size<=8388608):Ev (λn=>zbu n e) (z5j e):=by
 rw [yf2,zz1.yz5,Ev.yz0 (zld hs)]
 unfold z5j
 by_cases hc:z3m e=0
 case neg=>rw [Ev.yz1 (by simpa using hc),Ev.yz0 (zld hs),Ev.kz0,if_pos hc]
 obtain ⟨_,hp,_⟩:=zyh hc
 rw [Ev.kz1 (by simpa using hc),if_neg (by simpa using hc),Ev.yz0 (yxy e [] (by simp;omega)),Ev.kz0]
end Go.Proofs.YtahcjggdcmgpkaaGreat
namespace Go.Proofs.YtahcjggdcmgpkaaGreat
open Go Go.Ab
set_option linter.unusedVariables false
set_option linter.unusedSimpArgs false
theorem zw2 {α:Type} {f:α->Nat}:∀{l:List α} {x:α},x∈l->f x<=(l.map f).sum
 |y::l,x,h=>by
  simp only [List.map_cons,List.sum_cons]
  rcases List.mem_cons.1 h with h|h
  · subst h;omega
  · have:=zw2 (f:=f) h;omega
theorem zwv {α:Type} {f:α->Nat} (hf:∀x,1<=f x):∀l:List α,l.length<=(l.map f).sum
 |[]=>by simp
 |x::l=>by have:=zwv hf l;have:=hf x;simp only [List.length_cons,List.map_cons,List.sum_cons];omega
def z34 (l:List zz1):zz1:=⟨18,⟨0,⟨0,0⟩,false,[],[]⟩,[],l⟩
theorem zhu (l:List zz1):(z34 l).size=(l.map zz1.size).sum+12:=by
 rw [zz1.size_eq];show 1+yz2.size _+0+1+((l.map zz1.size).sum+1)+1=_
 rw [yz2.size_eq];show 1+(1+(1+1+1)+1+(0+1)+(0+1)+1)+0+1+((l.map zz1.size).sum+1)+1=_
 omega
theorem ywg {l:List zz1} (h:∀x∈l,x.wf):(z34 l).wf:=by
 rw [zz1.z6u]
 refine ⟨by show (IntKind.u8.min<=18∧18<=IntKind.u8.max);decide,?_,trivial,h⟩
 rw [yz2.z6u]
 refine ⟨by show (IntKind.u8.min<=0∧0<=IntKind.u8.max);decide,?_,trivial,trivial,by simp [z34]⟩
 rw [zz7.z6u]
 exact ⟨by show (IntKind.i64.min<=0∧0<=IntKind.i64.max);decide,by show (IntKind.i64.min<=0∧0<=IntKind.i64.max);decide⟩
theorem z01p {a b:List zz1}:eqB (z34 a) (z34 b)=eqB a b:=by
 by_cases h:a=b
 ·rw [h,zb1,zb1]
 ·rw [zzp.2 h,zzp.2 (λe=>h (by injection e))]
section
variable {p : zz0} {t : kz6} {r : kz4} {c : kz5} {a : zz3} {x : yza} {e : zz1}
theorem zx8 (h:t∈p.attrs):t.size+2<=p.size:=by have:=zw2 (f:=kz6.size) h;rw [zz0.size_eq];omega
theorem znd (h:r∈p.rules):r.size+2<=p.size:=by have:=zw2 (f:=kz4.size) h;rw [zz0.size_eq];omega
theorem zx9:t.value.size+t.name.length+2<=t.size:=by rw [kz6.size_eq];omega
theorem zt8 (h:c∈r.cases):c.size+2<=r.size:=by have:=zw2 (f:=kz5.size) h;rw [kz4.size_eq];omega
theorem z04u:r.name.length+2<=r.size:=by rw [kz4.size_eq];omega
theorem z075 {s:List UInt8} (h:s∈r.params):s.length+2<=r.size:=by have:=zw2 (f:=λs:List UInt8=>s.length+1) h;rw [kz4.size_eq];omega
theorem y8a:c.when_.size+2<=c.size:=by rw [kz5.size_eq];omega
theorem zx1 (h:a∈c.do_):a.size+2<=c.size:=by have:=zw2 (f:=zz3.size) h;rw [kz5.size_eq];omega
theorem z07c:a.name.length+2<=a.size:=by rw [zz3.size_eq];omega
theorem y84:(a.args.map zz1.size).sum+5<=a.size:=by rw [zz3.size_eq];omega
theorem y3b (h:x∈a.items):x.size+2<=a.size:=by have:=zw2 (f:=yza.size) h;rw [zz3.size_eq];omega
theorem z078:x.name.length+2<=x.size:=by rw [yza.size_eq];omega
theorem y8v:(x.args.map zz1.size).sum+4<=x.size:=by rw [yza.size_eq];omega
theorem zjj:p.attrs.length<=p.size:=by have:=zwv (f:=kz6.size) (λx=>by rw [kz6.size_eq];omega) p.attrs;rw [zz0.size_eq];omega
theorem ze1:p.rules.length<=p.size:=by have:=zwv (f:=kz4.size) (λx=>by rw [kz4.size_eq];omega) p.rules;rw [zz0.size_eq];omega
theorem zy9:r.params.length<=r.size:=by have:=zwv (f:=λs:List UInt8=>s.length+1) (λx=>by omega) r.params;rw [kz4.size_eq];omega
theorem zup:r.cases.length<=r.size:=by have:=zwv (f:=kz5.size) (λx=>by rw [kz5.size_eq];omega) r.cases;rw [kz4.size_eq];omega
theorem zvt:c.do_.length<=c.size:=by have:=zwv (f:=zz3.size) (λx=>by rw [zz3.size_eq];omega) c.do_;rw [kz5.size_eq];omega
theorem zxg:a.items.length<=a.size:=by have:=zwv (f:=yza.size) (λx=>by rw [yza.size_eq];omega) a.items;rw [zz3.size_eq];omega
theorem z04v:a.args.length<=a.size:=by have:=zcb a.args;have:=@y84 a;omega
theorem z041:x.args.length<=x.size:=by have:=zcb x.args;have:=@y8v x;omega
theorem z00o (h:p.wf) (ht:t∈p.attrs):t.value.wf:=by rw [zz0.z6u] at h;have:=h.1 t ht;rw [kz6.z6u] at this;exact this.2
theorem yvi (h:p.wf) (hr:r∈p.rules):r.wf:=by rw [zz0.z6u] at h;exact h.2 r hr
theorem z017 (h:r.wf) (hc:c∈r.cases):c.wf:=by rw [kz4.z6u] at h;exact h.2.2 c hc
theorem z05m (h:c.wf):c.when_.wf:=by rw [kz5.z6u] at h;exact h.2.1
theorem z01e (h:c.wf) (ha:a∈c.do_):a.wf:=by rw [kz5.z6u] at h;exact h.2.2 a ha
theorem z07d (h:a.wf):(0<=a.kind∧a.kind<=255)∧(0<=a.axis∧a.axis<=255):=by rw [zz3.z6u] at h;exact ⟨h.1,h.2.1⟩
theorem wf_aa (h:a.wf):(z34 a.args).wf:=by rw [zz3.z6u] at h;exact ywg h.2.2.2.1
theorem wf_ae (h:a.wf) (he:e∈a.args):e.wf:=by rw [zz3.z6u] at h;exact h.2.2.2.1 e he
theorem z07a (h:a.wf) (hx:x∈a.items):x.wf:=by rw [zz3.z6u] at h;exact h.2.2.2.2 x hx
theorem wf_xa (h:x.wf):(z34 x.args).wf:=by rw [yza.z6u] at h;exact ywg h.2.2
theorem wf_xe (h:x.wf) (he:e∈x.args):e.wf:=by rw [yza.z6u] at h;exact h.2.2 e he
end
theorem z05z {α:Type} {a b:List α} (h:¬a.length=b.length):((a.length:Int) != (b.length:Int))=true:=by simp;omega
theorem yxk {α:Type} {a b:List α} (h:a.length=b.length):((a.length:Int) != (b.length:Int))=false:=by simp;omega
theorem zle {α:Type} {F:Nat->List α->List α->Option Bool} {L:Nat->Int->List α->List α->Int->Option Bool} {S:Nat->α->α->Option Bool} {a b:List α}
  (hF:∀n,F (n+1) a b=pIf ((a.length:Int) != (b.length:Int)) (some false) (L n 0 b a (a.length:Int)))
  (hL:∀n (k:Int),L (n+1) k b a (a.length:Int)=pIf (decide (k<(a.length:Int))) ((ix a k).bind λx0=>(ix b k).bind λx1=>(S n x0 x1).bind λy2=>pIf (!y2) (some false) (L n (IntKind.i64.wrap (k+1)) b a (a.length:Int))) (some true))
  (hb:a.length<=8388608) (hS:∀x∈a,∀y,Ev (λn=>S n x y) (eqB x y)):Ev (λn=>F n a b) (eqB a b):=by
 rw [Ev.zmg hF]
 by_cases hlen:a.length=b.length
 case neg=>rw [Ev.yz1 (z05z hlen),Ev.kz0,zzp.2 (λh=>hlen (by rw [h]))]
 rw [Ev.kz1 (yxk hlen)]
 have:=y23 (L:=λn k=>L n k b a (a.length:Int)) (fail:=false) (r:=true) hlen
  (by rw [Ev.zmg (λn=>hL n _),Ev.kz1 (by simp),Ev.kz0]) λk hk hk' v hv=>by
   rw [Ev.zmg (λn=>hL n _),Ev.yz1 (by simpa using hk),Ev.kz2 (yz6 hk),Ev.kz2 (yz6 hk'),Ev.yz0 (hS _ (List.getElem_mem hk) _)]
   by_cases he:a[k]=b[k]
   ·rw [he,zb1,Ev.kz1 (by rfl),wrk (by omega)];exact hv
   ·rw [zzp.2 he,Ev.yz1 (by rfl),Ev.kz0];rfl
 cases h:eqB a b <;> rw [h] at this <;> exact this
theorem y76 {α:Type} {L:Nat->Int->List α->Int->Option Int} {S:Nat->α->Option Bool} {l:List α} {p:α->Bool}
  (hL:∀n (k:Int),L (n+1) k l (l.length:Int)=pIf (decide (k<(l.length:Int))) ((ix l k).bind λx0=>(S n x0).bind λy1=>pIf y1 (some k) (L n (IntKind.i64.wrap (k+1)) l (l.length:Int))) (some (-1)))
  (hb:l.length<=8388608) (hS:∀x∈l,Ev (λn=>S n x) (p x)):∃i:Int,Ev (λn=>L n 0 l (l.length:Int)) i∧decide (i>=0)=l.any p:=by
 have:∀k,k<=l.length->∃i:Int,Ev (λn=>L n (k:Int) l (l.length:Int)) i∧decide (i>=0)=(l.drop k).any p :=
  down ⟨-1,by rw [Ev.zmg (λn=>hL n _),Ev.kz1 (by simp),Ev.kz0],by simp⟩ λk hk ⟨i,h1,h2⟩=>by
   cases hp:p l[k] with
   |true =>
    refine ⟨k,?_,?_⟩
    · rw [Ev.zmg (λn=>hL n _),Ev.yz1 (by simpa using hk),Ev.kz2 (yz6 hk),Ev.yz0 (hS _ (List.getElem_mem hk)),hp,Ev.yz1 rfl,Ev.kz0]
    · rw [<-List.getElem_cons_drop (h:=hk),List.any_cons,hp];simp
   |false =>
    refine ⟨i,?_,?_⟩
    · rw [Ev.zmg (λn=>hL n _),Ev.yz1 (by simpa using hk),Ev.kz2 (yz6 hk),Ev.yz0 (hS _ (List.getElem_mem hk)),hp,Ev.kz1 rfl,wrk (by omega)];exact h1
    · rw [<-List.getElem_cons_drop (h:=hk),List.any_cons,hp,h2];simp
 simpa using this 0 (Nat.zero_le _)
theorem zyy:∀a b:zz1,a.size<=8388608->Ev (λn=>z4f n a b) (eqB a b):=zxv (P:=λa=>∀b:zz1,a.size<=8388608->Ev (λn=>z4f n a b) (eqB a b)) λa ih b hs=>by
 have hsz:=zbv a
 have hlen:=zcb a.args
 rw [ynw]
 by_cases h1:a.op=b.op
 case neg=>rw [Ev.kz1 (by simpa using h1),Ev.kz0,zzp.2 (λh=>h1 (by rw [h]))]
 rw [Ev.yz1 (by simpa using h1)]
 by_cases h2:a.name=b.name
 case neg=>rw [Ev.kz1 (by simpa using h2),Ev.kz0,zzp.2 (λh=>h2 (by rw [h]))]
 rw [Ev.yz1 (by simpa using h2),yz2.yz5,yz2.yz5,Ev.yz0 (yct _ _ (by omega))]
 by_cases h3:a.value=b.value
 case neg=>rw [zzp.2 h3,Ev.kz1 rfl,Ev.kz0,zzp.2 (λh=>h3 (by rw [h]))]
 rw [h3,zb1,Ev.yz1 rfl,Ev.yz0 (zle (S:=λn x y=>z4f n x.re y.re) (λn=>yz9.eq_2 _ _ n) (λn k=>zz8.eq_2 _ _ _ _ n) (by omega) λx hx y=>by rw [zz1.yz5,zz1.yz5];exact ih x hx y (by have:=zo5 hx;omega)),Ev.kz0]
 obtain ⟨a1,a2,a3,a4⟩:=a
 obtain ⟨b1,b2,b3,b4⟩:=b
 cases h1;cases h2;cases h3
 by_cases h:a4=b4
 ·cases h;rw [zb1,zb1]
 ·rw [zzp.2 h,zzp.2 (λe=>h (by injection e))]
theorem zwu:∀a b:zz1,a.size<=8388608->Ev (λn=>z5n n a b) (eqB a b):=zxv (P:=λa=>∀b:zz1,a.size<=8388608->Ev (λn=>z5n n a b) (eqB a b)) λa ih b hs=>by
 have hsz:=zbv a
 have hlen:=zcb a.args
 have bad:a≠b->Ev (λn=>z38 n true b a) (eqB a b):=λh=>by rw [zvn,Ev.yz1 rfl,Ev.kz0,zzp.2 h]
 rw [yiw,zz1.yz5,zz1.yz5]
 by_cases h1:a.op=b.op
 case neg=>rw [Ev.yz1 (by simpa using h1)];exact bad λh=>h1 (by rw [h])
 rw [Ev.kz1 (by simpa using h1)]
 by_cases h2:a.name=b.name
 case neg=>rw [Ev.yz1 (by simpa using h2)];exact bad λh=>h2 (by rw [h])
 rw [Ev.kz1 (by simpa using h2),yz2.yz5,yz2.yz5,Ev.yz0 (yfi _ _ (by omega))]
 by_cases h3:a.value=b.value
 case neg=>rw [zzp.2 h3,Ev.yz1 (by rfl)];exact bad λh=>h3 (by rw [h])
 rw [h3,zb1,Ev.kz1 (by rfl)]
 by_cases h4:a.args.length=b.args.length
 case neg=>rw [z05z h4];exact bad λh=>h4 (by rw [h])
 rw [yxk h4,zvn,Ev.kz1 rfl,zz1.yz5,zz1.yz5]
 have:=y23 (L:=λn k=>z7w n k b a) (fail:=false) (r:=true) h4
  (by rw [zul,Ev.kz1 (by simp),Ev.kz0]) λk hk hk' v hv=>by
   rw [zul,Ev.yz1 (by simpa using hk),Ev.kz2 (yz6 hk),Ev.kz2 (yz6 hk'),zz1.yz5,zz1.yz5,Ev.yz0 (ih _ (List.getElem_mem hk) _ (by have:=zo5 (List.getElem_mem hk);omega))]
   by_cases he:a.args[k]=b.args[k]
   ·rw [he,zb1,Ev.kz1 (by rfl),wrk (by omega),zz1.yz5,zz1.yz5];exact hv
   ·rw [zzp.2 he,Ev.yz1 (by rfl),Ev.kz0];rfl
 have e:(if eqB a.args b.args=true then true else false)=eqB a b:=by
  obtain ⟨a1,a2,a3,a4⟩:=a
  obtain ⟨b1,b2,b3,b4⟩:=b
  cases h1;cases h2;cases h3
  by_cases h:a4=b4
  ·cases h;rw [zb1,zb1];rfl
  ·rw [zzp.2 h,zzp.2 (λe=>h (by injection e))];rfl
 rw [<-e];exact this
end Go.Proofs.YtahcjggdcmgpkaaGreat
