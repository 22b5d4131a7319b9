/-
  What each function comes to, by its body, by a program of this repo.
-/
import Derived.Test.YtahcjggdcmgpkaaGreatLib7
import Derived.Test.YtahcjggdcmgpkaaGreatOwn2
import Derived.Lib.Bytealg
import Derived.Test.YtahcjggdcmgpkaaGreatLib8
namespace Go.Proofs.YtahcjggdcmgpkaaGreat
open Go Go.Ab
set_option linter.unusedVariables false
theorem ycb {r} (a0 a1):type_of% (evS (λn=>zbz n a0 a1) r λn=>zbz.eq_2 a0 a1 n):=evS _ _ λ_=>rfl
theorem zsy {r} (a0 a1 a2):type_of% (evS (λn=>z3t n a0 a1 a2) r λn=>z3t.eq_2 a0 a1 a2 n):=evS _ _ λ_=>rfl
theorem zsu {r} (a0 a1 a2):type_of% (evS (λn=>z6v n a0 a1 a2) r λn=>z6v.eq_2 a0 a1 a2 n):=evS _ _ λ_=>rfl
theorem yel {r} (a0):type_of% (evS (λn=>z9b n a0) r λn=>z9b.eq_2 a0 n):=evS _ _ λ_=>rfl
theorem zmf {r} (a0 a1 a2):type_of% (evS (λn=>z6d n a0 a1 a2) r λn=>z6d.eq_2 a0 a1 a2 n):=evS _ _ λ_=>rfl
theorem zmw {r} (a0 a1 a2 a3):type_of% (evS (λn=>z5x n a0 a1 a2 a3) r λn=>z5x.eq_2 a0 a1 a2 a3 n):=evS _ _ λ_=>rfl
theorem zxb {r} (a0):type_of% (evS (λn=>zej n a0) r λn=>zej.eq_2 a0 n):=evS _ _ λ_=>rfl
theorem yfo {r} (a0 a1):type_of% (evS (λn=>zbt n a0 a1) r λn=>zbt.eq_2 a0 a1 n):=evS _ _ λ_=>rfl
theorem zsg {r} (a0 a1 a2):type_of% (evS (λn=>z2f n a0 a1 a2) r λn=>z2f.eq_2 a0 a1 a2 n):=evS _ _ λ_=>rfl
theorem zth {r} (a0 a1 a2):type_of% (evS (λn=>z63 n a0 a1 a2) r λn=>z63.eq_2 a0 a1 a2 n):=evS _ _ λ_=>rfl
theorem yf8 {r} (a0):type_of% (evS (λn=>z9f n a0) r λn=>z9f.eq_2 a0 n):=evS _ _ λ_=>rfl
theorem zs6 {r} (a0 a1 a2):type_of% (evS (λn=>z6w n a0 a1 a2) r λn=>z6w.eq_2 a0 a1 a2 n):=evS _ _ λ_=>rfl
theorem zyi {r} (a0):type_of% (evS (λn=>z69 n a0) r λn=>z69.eq_2 a0 n):=evS _ _ λ_=>rfl
theorem zk2 {r} (a0):type_of% (evS (λn=>z05 n a0) r λn=>z05.eq_2 a0 n):=evS _ _ λ_=>rfl
theorem y2s {r} (a0):type_of% (evS (λn=>z7q n a0) r λn=>z7q.eq_2 a0 n):=evS _ _ λ_=>rfl
theorem zna {r} (a0 a1):type_of% (evS (λn=>z1z n a0 a1) r λn=>z1z.eq_2 a0 a1 n):=evS _ _ λ_=>rfl
theorem zn9 {r} (a0 a1):type_of% (evS (λn=>z0x n a0 a1) r λn=>z0x.eq_2 a0 a1 n):=evS _ _ λ_=>rfl
theorem znj {r} (a0 a1 a2):type_of% (evS (λn=>z0v n a0 a1 a2) r λn=>z0v.eq_2 a0 a1 a2 n):=evS _ _ λ_=>rfl
theorem zn8 {r} (a0 a1 a2):type_of% (evS (λn=>z0y n a0 a1 a2) r λn=>z0y.eq_2 a0 a1 a2 n):=evS _ _ λ_=>rfl
theorem znc {r} (a0 a1 a2 a3):type_of% (evS (λn=>z1y n a0 a1 a2 a3) r λn=>z1y.eq_2 a0 a1 a2 a3 n):=evS _ _ λ_=>rfl
theorem ygo {r} (a0):type_of% (evS (λn=>zc1 n a0) r λn=>zc1.eq_2 a0 n):=evS _ _ λ_=>rfl
theorem zsp {r} (a0 a1):type_of% (evS (λn=>z6l n a0 a1) r λn=>z6l.eq_2 a0 a1 n):=evS _ _ λ_=>rfl
theorem zrn {r} (a0 a1):type_of% (evS (λn=>z3y n a0 a1) r λn=>z3y.eq_2 a0 a1 n):=evS _ _ λ_=>rfl
theorem zta {r} (a0 a1 a2):type_of% (evS (λn=>z6y n a0 a1 a2) r λn=>z6y.eq_2 a0 a1 a2 n):=evS _ _ λ_=>rfl
theorem zsc {r} (a0 a1):type_of% (evS (λn=>z3u n a0 a1) r λn=>z3u.eq_2 a0 a1 n):=evS _ _ λ_=>rfl
theorem zs8 {r} (a0 a1 a2 a3):type_of% (evS (λn=>z3r n a0 a1 a2 a3) r λn=>z3r.eq_2 a0 a1 a2 a3 n):=evS _ _ λ_=>rfl
theorem zs4 {r} (a0 a1 a2 a3):type_of% (evS (λn=>z3z n a0 a1 a2 a3) r λn=>z3z.eq_2 a0 a1 a2 a3 n):=evS _ _ λ_=>rfl
theorem zsn {r} (a0 a1 a2 a3):type_of% (evS (λn=>z41 n a0 a1 a2 a3) r λn=>z41.eq_2 a0 a1 a2 a3 n):=evS _ _ λ_=>rfl
theorem yb2 {r} (a0):type_of% (evS (λn=>zc8 n a0) r λn=>zc8.eq_2 a0 n):=evS _ _ λ_=>rfl
theorem zfq {r} (a0):type_of% (evS (λn=>yzq n a0) r λn=>yzq.eq_2 a0 n):=evS _ _ λ_=>rfl
theorem ze4 {r} (a0):type_of% (evS (λn=>zzg n a0) r λn=>zzg.eq_2 a0 n):=evS _ _ λ_=>rfl
theorem ykt {r} (a0):type_of% (evS (λn=>zg1 n a0) r λn=>zg1.eq_2 a0 n):=evS _ _ λ_=>rfl
theorem zvn {r} (a0 a1):type_of% (evS (λn=>z7x n a0 a1) r λn=>z7x.eq_2 a0 a1 n):=evS _ _ λ_=>rfl
theorem zu7 {r} (a0 a1 a2):type_of% (evS (λn=>z5f n a0 a1 a2) r λn=>z5f.eq_2 a0 a1 a2 n):=evS _ _ λ_=>rfl
theorem zvs {r} (a0 a1 a2 a3 a4):type_of% (evS (λn=>z86 n a0 a1 a2 a3 a4) r λn=>z86.eq_2 a0 a1 a2 a3 a4 n):=evS _ _ λ_=>rfl
theorem zul {r} (a0 a1 a2 a3 a4 a5):type_of% (evS (λn=>z5e n a0 a1 a2 a3 a4 a5) r λn=>z5e.eq_2 a0 a1 a2 a3 a4 a5 n):=evS _ _ λ_=>rfl
theorem zvj {r} (a0 a1 a2 a3 a4 a5 a6):type_of% (evS (λn=>z7m n a0 a1 a2 a3 a4 a5 a6) r λn=>z7m.eq_2 a0 a1 a2 a3 a4 a5 a6 n):=evS _ _ λ_=>rfl
theorem yi3 {r} (a0):type_of% (evS (λn=>zde n a0) r λn=>zde.eq_2 a0 n):=evS _ _ λ_=>rfl
theorem zw0 {r} (a0 a1):type_of% (evS (λn=>zbl n a0 a1) r λn=>zbl.eq_2 a0 a1 n):=evS _ _ λ_=>rfl
theorem zvk {r} (a0 a1):type_of% (evS (λn=>z1u n a0 a1) r λn=>z1u.eq_2 a0 a1 n):=evS _ _ λ_=>rfl
theorem zu1 {r} (a0 a1 a2 a3 a4):type_of% (evS (λn=>z8v n a0 a1 a2 a3 a4) r λn=>z8v.eq_2 a0 a1 a2 a3 a4 n):=evS _ _ λ_=>rfl
theorem zu3 {r} (a0 a1 a2):type_of% (evS (λn=>z13 n a0 a1 a2) r λn=>z13.eq_2 a0 a1 a2 n):=evS _ _ λ_=>rfl
theorem zf0 {r} (a0 a1):type_of% (evS (λn=>zzv n a0 a1) r λn=>zzv.eq_2 a0 a1 n):=evS _ _ λ_=>rfl
theorem zlw {r} (a0 a1):type_of% (evS (λn=>yzw n a0 a1) r λn=>yzw.eq_2 a0 a1 n):=evS _ _ λ_=>rfl
theorem yfs {r} (a0):type_of% (evS (λn=>z4e n a0) r λn=>z4e.eq_2 a0 n):=evS _ _ λ_=>rfl
theorem y9m {r} (a0):type_of% (evS (λn=>zag n a0) r λn=>zag.eq_2 a0 n):=evS _ _ λ_=>rfl
theorem zr3 {r} (a0 a1 a2 a3 a4):type_of% (evS (λn=>z4l n a0 a1 a2 a3 a4) r λn=>z4l.eq_2 a0 a1 a2 a3 a4 n):=evS _ _ λ_=>rfl
theorem y1e {r} (a0):type_of% (evS (λn=>zg3 n a0) r λn=>zg3.eq_2 a0 n):=evS _ _ λ_=>rfl
theorem zvg {r} (a0 a1 a2):type_of% (evS (λn=>z0j n a0 a1 a2) r λn=>z0j.eq_2 a0 a1 a2 n):=evS _ _ λ_=>rfl
theorem zvf {r} (a0 a1 a2):type_of% (evS (λn=>z8c n a0 a1 a2) r λn=>z8c.eq_2 a0 a1 a2 n):=evS _ _ λ_=>rfl
theorem zvt {r} (a0 a1 a2):type_of% (evS (λn=>z8s n a0 a1 a2) r λn=>z8s.eq_2 a0 a1 a2 n):=evS _ _ λ_=>rfl
theorem ztx {r} (a0 a1 a2):type_of% (evS (λn=>zbi n a0 a1 a2) r λn=>zbi.eq_2 a0 a1 a2 n):=evS _ _ λ_=>rfl
theorem zvq {r}:type_of% (evS (λn=>zbg n) r λn=>zbg.eq_2 n):=evS _ _ λ_=>rfl
theorem zvc {r} (a0):type_of% (evS (λn=>z1s n a0) r λn=>z1s.eq_2 a0 n):=evS _ _ λ_=>rfl
theorem y7p {r} (a0):type_of% (evS (λn=>z8x n a0) r λn=>z8x.eq_2 a0 n):=evS _ _ λ_=>rfl
theorem zp5 {r} (a0 a1 a2 a3 a4):type_of% (evS (λn=>z3h n a0 a1 a2 a3 a4) r λn=>z3h.eq_2 a0 a1 a2 a3 a4 n):=evS _ _ λ_=>rfl
theorem y0r {r} (a0 a1):type_of% (evS (λn=>z3l n a0 a1) r λn=>z3l.eq_2 a0 a1 n):=evS _ _ λ_=>rfl
theorem yhu {r} (a0):type_of% (evS (λn=>zd5 n a0) r λn=>zd5.eq_2 a0 n):=evS _ _ λ_=>rfl
theorem ypc {r} (a0 a1):type_of% (evS (λn=>zih n a0 a1) r λn=>zih.eq_2 a0 a1 n):=evS _ _ λ_=>rfl
theorem yap {r} (a0 a1):type_of% (evS (λn=>z9y n a0 a1) r λn=>z9y.eq_2 a0 a1 n):=evS _ _ λ_=>rfl
theorem yds {r} (a0):type_of% (evS (λn=>zel n a0) r λn=>zel.eq_2 a0 n):=evS _ _ λ_=>rfl
theorem y4o {r} (a0):type_of% (evS (λn=>z2g n a0) r λn=>z2g.eq_2 a0 n):=evS _ _ λ_=>rfl
theorem yh0 {r} (a0):type_of% (evS (λn=>zdt n a0) r λn=>zdt.eq_2 a0 n):=evS _ _ λ_=>rfl
theorem zu6 {r} (a0 a1 a2):type_of% (evS (λn=>z7p n a0 a1 a2) r λn=>z7p.eq_2 a0 a1 a2 n):=evS _ _ λ_=>rfl
theorem zvx {r} (a0 a1 a2 a3):type_of% (evS (λn=>z8y n a0 a1 a2 a3) r λn=>z8y.eq_2 a0 a1 a2 a3 n):=evS _ _ λ_=>rfl
theorem zu5 {r} (a0 a1 a2 a3):type_of% (evS (λn=>z7z n a0 a1 a2 a3) r λn=>z7z.eq_2 a0 a1 a2 a3 n):=evS _ _ λ_=>rfl
theorem y73 {r} (a0):type_of% (evS (λn=>z39 n a0) r λn=>z39.eq_2 a0 n):=evS _ _ λ_=>rfl
theorem yc6 {r} (a0):type_of% (evS (λn=>zed n a0) r λn=>zed.eq_2 a0 n):=evS _ _ λ_=>rfl
theorem y58 {r} (a0 a1):type_of% (evS (λn=>z64 n a0 a1) r λn=>z64.eq_2 a0 a1 n):=evS _ _ λ_=>rfl
theorem yln {r} (a0):type_of% (evS (λn=>zg0 n a0) r λn=>zg0.eq_2 a0 n):=evS _ _ λ_=>rfl
theorem yki {r} (a0 a1):type_of% (evS (λn=>z47 n a0 a1) r λn=>z47.eq_2 a0 a1 n):=evS _ _ λ_=>rfl
theorem ztz {r} (a0 a1 a2):type_of% (evS (λn=>z1t n a0 a1 a2) r λn=>z1t.eq_2 a0 a1 a2 n):=evS _ _ λ_=>rfl
theorem zux {r} (a0 a1 a2 a3):type_of% (evS (λn=>z8h n a0 a1 a2 a3) r λn=>z8h.eq_2 a0 a1 a2 a3 n):=evS _ _ λ_=>rfl
theorem yqj {r} (a0):type_of% (evS (λn=>zfe n a0) r λn=>zfe.eq_2 a0 n):=evS _ _ λ_=>rfl
theorem yb5 {r} (a0 a1):type_of% (evS (λn=>z7i n a0 a1) r λn=>z7i.eq_2 a0 a1 n):=evS _ _ λ_=>rfl
theorem yb4 {r} (a0 a1):type_of% (evS (λn=>z7f n a0 a1) r λn=>z7f.eq_2 a0 a1 n):=evS _ _ λ_=>rfl
theorem y9t {r} (a0 a1):type_of% (evS (λn=>zal n a0 a1) r λn=>zal.eq_2 a0 a1 n):=evS _ _ λ_=>rfl
theorem yao {r} (a0 a1):type_of% (evS (λn=>zah n a0 a1) r λn=>zah.eq_2 a0 a1 n):=evS _ _ λ_=>rfl
theorem ya2 {r} (a0):type_of% (evS (λn=>z7g n a0) r λn=>z7g.eq_2 a0 n):=evS _ _ λ_=>rfl
theorem zew {r} (a0):type_of% (evS (λn=>kzg n a0) r λn=>kzg.eq_2 a0 n):=evS _ _ λ_=>rfl
theorem zgl {r} (a0):type_of% (evS (λn=>kzj n a0) r λn=>kzj.eq_2 a0 n):=evS _ _ λ_=>rfl
theorem z1a {r} (a0 a1 a2):type_of% (evS (λn=>zzc n a0 a1 a2) r λn=>zzc.eq_2 a0 a1 a2 n):=evS _ _ λ_=>rfl
theorem yge {r} (a0):type_of% (evS (λn=>ze2 n a0) r λn=>ze2.eq_2 a0 n):=evS _ _ λ_=>rfl
theorem yhk {r} (a0):type_of% (evS (λn=>z48 n a0) r λn=>z48.eq_2 a0 n):=evS _ _ λ_=>rfl
theorem y74 {r} (a0 a1):type_of% (evS (λn=>z80 n a0 a1) r λn=>z80.eq_2 a0 a1 n):=evS _ _ λ_=>rfl
theorem y4z {r} (a0):type_of% (evS (λn=>z9r n a0) r λn=>z9r.eq_2 a0 n):=evS _ _ λ_=>rfl
theorem zj8 {r} (a0):type_of% (evS (λn=>yzy n a0) r λn=>yzy.eq_2 a0 n):=evS _ _ λ_=>rfl
theorem zgu {r} (a0):type_of% (evS (λn=>yzm n a0) r λn=>yzm.eq_2 a0 n):=evS _ _ λ_=>rfl
theorem yh4 {r} (a0):type_of% (evS (λn=>zdr n a0) r λn=>zdr.eq_2 a0 n):=evS _ _ λ_=>rfl
theorem yo6 {r} (a0):type_of% (evS (λn=>zcp n a0) r λn=>zcp.eq_2 a0 n):=evS _ _ λ_=>rfl
theorem yay {r} (a0 a1):type_of% (evS (λn=>zaq n a0 a1) r λn=>zaq.eq_2 a0 a1 n):=evS _ _ λ_=>rfl
theorem y9u {r} (a0):type_of% (evS (λn=>zaa n a0) r λn=>zaa.eq_2 a0 n):=evS _ _ λ_=>rfl
theorem y0k {r} (a0):type_of% (evS (λn=>z7b n a0) r λn=>z7b.eq_2 a0 n):=evS _ _ λ_=>rfl
theorem zwd {r} (a0 a1):type_of% (evS (λn=>z1j n a0 a1) r λn=>z1j.eq_2 a0 a1 n):=evS _ _ λ_=>rfl
theorem zw7 {r} (a0 a1 a2 a3):type_of% (evS (λn=>z1i n a0 a1 a2 a3) r λn=>z1i.eq_2 a0 a1 a2 a3 n):=evS _ _ λ_=>rfl
theorem zwh {r} (a0 a1 a2):type_of% (evS (λn=>z1h n a0 a1 a2) r λn=>z1h.eq_2 a0 a1 a2 n):=evS _ _ λ_=>rfl
theorem zmt {r} (a0 a1 a2):type_of% (evS (λn=>z0n n a0 a1 a2) r λn=>z0n.eq_2 a0 a1 a2 n):=evS _ _ λ_=>rfl
theorem zm8 {r} (a0 a1 a2):type_of% (evS (λn=>z0m n a0 a1 a2) r λn=>z0m.eq_2 a0 a1 a2 n):=evS _ _ λ_=>rfl
theorem zmn {r} (a0 a1):type_of% (evS (λn=>kzz n a0 a1) r λn=>kzz.eq_2 a0 a1 n):=evS _ _ λ_=>rfl
theorem zm0 {r} (a0 a1 a2):type_of% (evS (λn=>z0o n a0 a1 a2) r λn=>z0o.eq_2 a0 a1 a2 n):=evS _ _ λ_=>rfl
theorem zmy {r} (a0 a1 a2 a3):type_of% (evS (λn=>yzu n a0 a1 a2 a3) r λn=>yzu.eq_2 a0 a1 a2 a3 n):=evS _ _ λ_=>rfl
theorem y9q {r} (a0):type_of% (evS (λn=>zcj n a0) r λn=>zcj.eq_2 a0 n):=evS _ _ λ_=>rfl
theorem zqe {r} (a0 a1 a2 a3):type_of% (evS (λn=>z30 n a0 a1 a2 a3) r λn=>z30.eq_2 a0 a1 a2 a3 n):=evS _ _ λ_=>rfl
theorem zr4 {r} (a0 a1 a2 a3 a4):type_of% (evS (λn=>z4x n a0 a1 a2 a3 a4) r λn=>z4x.eq_2 a0 a1 a2 a3 a4 n):=evS _ _ λ_=>rfl
theorem zq4 {r} (a0 a1 a2):type_of% (evS (λn=>z2s n a0 a1 a2) r λn=>z2s.eq_2 a0 a1 a2 n):=evS _ _ λ_=>rfl
theorem zqk {r} (a0 a1 a2 a3 a4):type_of% (evS (λn=>z54 n a0 a1 a2 a3 a4) r λn=>z54.eq_2 a0 a1 a2 a3 a4 n):=evS _ _ λ_=>rfl
theorem zq8 {r} (a0 a1 a2 a3 a4 a5):type_of% (evS (λn=>z2l n a0 a1 a2 a3 a4 a5) r λn=>z2l.eq_2 a0 a1 a2 a3 a4 a5 n):=evS _ _ λ_=>rfl
theorem zr2 {r} (a0 a1 a2 a3 a4 a5 a6 a7):type_of% (evS (λn=>z32 n a0 a1 a2 a3 a4 a5 a6 a7) r λn=>z32.eq_2 a0 a1 a2 a3 a4 a5 a6 a7 n):=evS _ _ λ_=>rfl
theorem zq3 {r} (a0 a1 a2 a3 a4 a5 a6 a7 a8):type_of% (evS (λn=>z2t n a0 a1 a2 a3 a4 a5 a6 a7 a8) r λn=>z2t.eq_2 a0 a1 a2 a3 a4 a5 a6 a7 a8 n):=evS _ _ λ_=>rfl
theorem zm5 {r} (a0 a1):type_of% (evS (λn=>zzx n a0 a1) r λn=>zzx.eq_2 a0 a1 n):=evS _ _ λ_=>rfl
theorem z4d {r} (a0 a1 a2 a3):type_of% (evS (λn=>zzm n a0 a1 a2 a3) r λn=>zzm.eq_2 a0 a1 a2 a3 n):=evS _ _ λ_=>rfl
theorem zk3 {r} (a0 a1):type_of% (evS (λn=>kzq n a0 a1) r λn=>kzq.eq_2 a0 a1 n):=evS _ _ λ_=>rfl
theorem yh8 {r} (a0 a1):type_of% (evS (λn=>zd9 n a0 a1) r λn=>zd9.eq_2 a0 a1 n):=evS _ _ λ_=>rfl
theorem zum {r} (a0 a1 a2):type_of% (evS (λn=>zbj n a0 a1 a2) r λn=>zbj.eq_2 a0 a1 a2 n):=evS _ _ λ_=>rfl
theorem y7f {r} (a0 a1):type_of% (evS (λn=>z8i n a0 a1) r λn=>z8i.eq_2 a0 a1 n):=evS _ _ λ_=>rfl
theorem zv8 {r} (a0 a1 a2 a3):type_of% (evS (λn=>z82 n a0 a1 a2 a3) r λn=>z82.eq_2 a0 a1 a2 a3 n):=evS _ _ λ_=>rfl
theorem yio {r} (a0):type_of% (evS (λn=>zdb n a0) r λn=>zdb.eq_2 a0 n):=evS _ _ λ_=>rfl
theorem y8y {r} (a0 a1 a2):type_of% (evS (λn=>zcf n a0 a1 a2) r λn=>zcf.eq_2 a0 a1 a2 n):=evS _ _ λ_=>rfl
theorem zjd {r} (a0 a1 a2):type_of% (evS (λn=>kzy n a0 a1 a2) r λn=>kzy.eq_2 a0 a1 a2 n):=evS _ _ λ_=>rfl
theorem z2j {r} (a0 a1 a2 a3 a4):type_of% (evS (λn=>yzf n a0 a1 a2 a3 a4) r λn=>yzf.eq_2 a0 a1 a2 a3 a4 n):=evS _ _ λ_=>rfl
theorem zgt {r} (a0 a1 a2):type_of% (evS (λn=>kzm n a0 a1 a2) r λn=>kzm.eq_2 a0 a1 a2 n):=evS _ _ λ_=>rfl
theorem yja {r} (a0 a1 a2):type_of% (evS (λn=>zdo n a0 a1 a2) r λn=>zdo.eq_2 a0 a1 a2 n):=evS _ _ λ_=>rfl
theorem yek {r} (a0):type_of% (evS (λn=>zer n a0) r λn=>zer.eq_2 a0 n):=evS _ _ λ_=>rfl
theorem zrx {r} (a0 a1 a2 a3):type_of% (evS (λn=>z5z n a0 a1 a2 a3) r λn=>z5z.eq_2 a0 a1 a2 a3 n):=evS _ _ λ_=>rfl
theorem zsb {r} (a0 a1 a2 a3 a4 a5 a6):type_of% (evS (λn=>z5w n a0 a1 a2 a3 a4 a5 a6) r λn=>z5w.eq_2 a0 a1 a2 a3 a4 a5 a6 n):=evS _ _ λ_=>rfl
theorem zsz {r} (a0 a1 a2 a3 a4 a5 a6 a7 a8 a9):type_of% (evS (λn=>z60 n a0 a1 a2 a3 a4 a5 a6 a7 a8 a9) r λn=>z60.eq_2 a0 a1 a2 a3 a4 a5 a6 a7 a8 a9 n):=evS _ _ λ_=>rfl
theorem y61 {r} (a0 a1 a2):type_of% (evS (λn=>zbe n a0 a1 a2) r λn=>zbe.eq_2 a0 a1 a2 n):=evS _ _ λ_=>rfl
theorem zie {r} (a0 a1 a2):type_of% (evS (λn=>yzx n a0 a1 a2) r λn=>yzx.eq_2 a0 a1 a2 n):=evS _ _ λ_=>rfl
theorem z25 {r} (a0 a1 a2 a3 a4):type_of% (evS (λn=>zzf n a0 a1 a2 a3 a4) r λn=>zzf.eq_2 a0 a1 a2 a3 a4 n):=evS _ _ λ_=>rfl
theorem zgj {r} (a0 a1 a2):type_of% (evS (λn=>zzj n a0 a1 a2) r λn=>zzj.eq_2 a0 a1 a2 n):=evS _ _ λ_=>rfl
theorem yeq {r} (a0):type_of% (evS (λn=>zc0 n a0) r λn=>zc0.eq_2 a0 n):=evS _ _ λ_=>rfl
theorem zs5 {r} (a0 a1 a2 a3):type_of% (evS (λn=>z6j n a0 a1 a2 a3) r λn=>z6j.eq_2 a0 a1 a2 a3 n):=evS _ _ λ_=>rfl
theorem ztd {r} (a0 a1 a2 a3 a4 a5 a6):type_of% (evS (λn=>z3q n a0 a1 a2 a3 a4 a5 a6) r λn=>z3q.eq_2 a0 a1 a2 a3 a4 a5 a6 n):=evS _ _ λ_=>rfl
theorem y4a {r} (a0 a1 a2 a3 a4 a5 a6 a7):type_of% (evS (λn=>z6b n a0 a1 a2 a3 a4 a5 a6 a7) r λn=>z6b.eq_2 a0 a1 a2 a3 a4 a5 a6 a7 n):=evS _ _ λ_=>rfl
theorem zst {r} (a0 a1 a2 a3 a4 a5 a6 a7 a8 a9):type_of% (evS (λn=>z5y n a0 a1 a2 a3 a4 a5 a6 a7 a8 a9) r λn=>z5y.eq_2 a0 a1 a2 a3 a4 a5 a6 a7 a8 a9 n):=evS _ _ λ_=>rfl
theorem yfe {r} (a0):type_of% (evS (λn=>z9c n a0) r λn=>z9c.eq_2 a0 n):=evS _ _ λ_=>rfl
theorem zt4 {r} (a0 a1 a2 a3 a4 a5 a6 a7 a8):type_of% (evS (λn=>z5v n a0 a1 a2 a3 a4 a5 a6 a7 a8) r λn=>z5v.eq_2 a0 a1 a2 a3 a4 a5 a6 a7 a8 n):=evS _ _ λ_=>rfl
theorem y3p {r} (a0 a1 a2 a3 a4 a5 a6 a7 a8 a9):type_of% (evS (λn=>z6t n a0 a1 a2 a3 a4 a5 a6 a7 a8 a9) r λn=>z6t.eq_2 a0 a1 a2 a3 a4 a5 a6 a7 a8 a9 n):=evS _ _ λ_=>rfl
theorem zt9 {r} (a0 a1 a2 a3 a4 a5 a6 a7 a8):type_of% (evS (λn=>z5u n a0 a1 a2 a3 a4 a5 a6 a7 a8) r λn=>z5u.eq_2 a0 a1 a2 a3 a4 a5 a6 a7 a8 n):=evS _ _ λ_=>rfl
theorem zsa {r} (a0 a1 a2 a3 a4 a5 a6 a7 a8 a9 a10 a11 a12):type_of% (evS (λn=>z6c n a0 a1 a2 a3 a4 a5 a6 a7 a8 a9 a10 a11 a12) r λn=>z6c.eq_2 a0 a1 a2 a3 a4 a5 a6 a7 a8 a9 a10 a11 a12 n):=evS _ _ λ_=>rfl
theorem zrs {r} (a0 a1 a2 a3 a4 a5 a6 a7 a8 a9 a10 a11 a12 a13):type_of% (evS (λn=>z71 n a0 a1 a2 a3 a4 a5 a6 a7 a8 a9 a10 a11 a12 a13) r λn=>z71.eq_2 a0 a1 a2 a3 a4 a5 a6 a7 a8 a9 a10 a11 a12 a13 n):=evS _ _ λ_=>rfl
theorem zt0 {r} (a0 a1 a2 a3 a4 a5 a6 a7 a8 a9):type_of% (evS (λn=>z3x n a0 a1 a2 a3 a4 a5 a6 a7 a8 a9) r λn=>z3x.eq_2 a0 a1 a2 a3 a4 a5 a6 a7 a8 a9 n):=evS _ _ λ_=>rfl
theorem zry {r} (a0 a1 a2 a3 a4 a5 a6 a7 a8 a9 a10 a11 a12 a13 a14):type_of% (evS (λn=>z6u n a0 a1 a2 a3 a4 a5 a6 a7 a8 a9 a10 a11 a12 a13 a14) r λn=>z6u.eq_2 a0 a1 a2 a3 a4 a5 a6 a7 a8 a9 a10 a11 a12 a13 a14 n):=evS _ _ λ_=>rfl
theorem zso {r} (a0 a1 a2 a3 a4 a5 a6 a7 a8 a9 a10 a11 a12 a13 a14 a15):type_of% (evS (λn=>z3w n a0 a1 a2 a3 a4 a5 a6 a7 a8 a9 a10 a11 a12 a13 a14 a15) r λn=>z3w.eq_2 a0 a1 a2 a3 a4 a5 a6 a7 a8 a9 a10 a11 a12 a13 a14 a15 n):=evS _ _ λ_=>rfl
theorem y4g {r} (a0 a1 a2 a3 a4 a5 a6 a7 a8 a9 a10):type_of% (evS (λn=>z6r n a0 a1 a2 a3 a4 a5 a6 a7 a8 a9 a10) r λn=>z6r.eq_2 a0 a1 a2 a3 a4 a5 a6 a7 a8 a9 a10 n):=evS _ _ λ_=>rfl
theorem zrp {r} (a0 a1 a2 a3 a4 a5 a6 a7 a8 a9 a10 a11 a12):type_of% (evS (λn=>z6a n a0 a1 a2 a3 a4 a5 a6 a7 a8 a9 a10 a11 a12) r λn=>z6a.eq_2 a0 a1 a2 a3 a4 a5 a6 a7 a8 a9 a10 a11 a12 n):=evS _ _ λ_=>rfl
theorem y2r {r} (a0 a1 a2 a3 a4 a5 a6 a7 a8 a9 a10 a11 a12 a13 a14 a15):type_of% (evS (λn=>z4o n a0 a1 a2 a3 a4 a5 a6 a7 a8 a9 a10 a11 a12 a13 a14 a15) r λn=>z4o.eq_2 a0 a1 a2 a3 a4 a5 a6 a7 a8 a9 a10 a11 a12 a13 a14 a15 n):=evS _ _ λ_=>rfl
theorem y2y {r} (a0 a1 a2 a3 a4 a5 a6 a7 a8 a9 a10 a11 a12):type_of% (evS (λn=>z2w n a0 a1 a2 a3 a4 a5 a6 a7 a8 a9 a10 a11 a12) r λn=>z2w.eq_2 a0 a1 a2 a3 a4 a5 a6 a7 a8 a9 a10 a11 a12 n):=evS _ _ λ_=>rfl
theorem yse {r} (a0 a1):type_of% (evS (λn=>zcm n a0 a1) r λn=>zcm.eq_2 a0 a1 n):=evS _ _ λ_=>rfl
theorem y9v {r} (a0):type_of% (evS (λn=>zat n a0) r λn=>zat.eq_2 a0 n):=evS _ _ λ_=>rfl
theorem zrb {r} (a0 a1 a2 a3 a4):type_of% (evS (λn=>z4i n a0 a1 a2 a3 a4) r λn=>z4i.eq_2 a0 a1 a2 a3 a4 n):=evS _ _ λ_=>rfl
theorem zkr {r} (a0):type_of% (evS (λn=>yzs n a0) r λn=>yzs.eq_2 a0 n):=evS _ _ λ_=>rfl
theorem z3c {r} (a0 a1 a2 a3 a4):type_of% (evS (λn=>yzo n a0 a1 a2 a3 a4) r λn=>yzo.eq_2 a0 a1 a2 a3 a4 n):=evS _ _ λ_=>rfl
theorem z9l {r} (a0 a1 a2 a3 a4):type_of% (evS (λn=>zzw n a0 a1 a2 a3 a4) r λn=>zzw.eq_2 a0 a1 a2 a3 a4 n):=evS _ _ λ_=>rfl
theorem z3b {r} (a0 a1 a2 a3):type_of% (evS (λn=>yzh n a0 a1 a2 a3) r λn=>yzh.eq_2 a0 a1 a2 a3 n):=evS _ _ λ_=>rfl
theorem yp8 {r} (a0 a1):type_of% (evS (λn=>z4f n a0 a1) r λn=>z4f.eq_2 a0 a1 n):=evS _ _ λ_=>rfl
theorem yfw {r} (a0 a1 a2):type_of% (evS (λn=>zeo n a0 a1 a2) r λn=>zeo.eq_2 a0 a1 a2 n):=evS _ _ λ_=>rfl
theorem ziz {r} (a0 a1 a2):type_of% (evS (λn=>zzz n a0 a1 a2) r λn=>zzz.eq_2 a0 a1 a2 n):=evS _ _ λ_=>rfl
theorem z2h {r} (a0 a1 a2 a3 a4):type_of% (evS (λn=>kzf n a0 a1 a2 a3 a4) r λn=>kzf.eq_2 a0 a1 a2 a3 a4 n):=evS _ _ λ_=>rfl
theorem zgy {r} (a0 a1 a2):type_of% (evS (λn=>zzn n a0 a1 a2) r λn=>zzn.eq_2 a0 a1 a2 n):=evS _ _ λ_=>rfl
theorem ypo {r} (a0 a1 a2):type_of% (evS (λn=>zd2 n a0 a1 a2) r λn=>zd2.eq_2 a0 a1 a2 n):=evS _ _ λ_=>rfl
theorem yhv {r} (a0 a1):type_of% (evS (λn=>zd7 n a0 a1) r λn=>zd7.eq_2 a0 a1 n):=evS _ _ λ_=>rfl
theorem zub {r} (a0 a1 a2 a3 a4 a5 a6 a7):type_of% (evS (λn=>z7w n a0 a1 a2 a3 a4 a5 a6 a7) r λn=>z7w.eq_2 a0 a1 a2 a3 a4 a5 a6 a7 n):=evS _ _ λ_=>rfl
theorem znt {r} (a0 a1 a2 a3 a4 a5 a6 a7 a8 a9 a10 a11):type_of% (evS (λn=>z38 n a0 a1 a2 a3 a4 a5 a6 a7 a8 a9 a10 a11) r λn=>z38.eq_2 a0 a1 a2 a3 a4 a5 a6 a7 a8 a9 a10 a11 n):=evS _ _ λ_=>rfl
theorem zve {r} (a0 a1 a2 a3 a4 a5 a6 a7 a8 a9 a10 a11 a12 a13):type_of% (evS (λn=>z36 n a0 a1 a2 a3 a4 a5 a6 a7 a8 a9 a10 a11 a12 a13) r λn=>z36.eq_2 a0 a1 a2 a3 a4 a5 a6 a7 a8 a9 a10 a11 a12 a13 n):=evS _ _ λ_=>rfl
theorem y6u {r} (a0 a1 a2 a3 a4 a5 a6 a7 a8 a9 a10 a11):type_of% (evS (λn=>z8r n a0 a1 a2 a3 a4 a5 a6 a7 a8 a9 a10 a11) r λn=>z8r.eq_2 a0 a1 a2 a3 a4 a5 a6 a7 a8 a9 a10 a11 n):=evS _ _ λ_=>rfl
theorem y1f {r} (a0 a1):type_of% (evS (λn=>zdi n a0 a1) r λn=>zdi.eq_2 a0 a1 n):=evS _ _ λ_=>rfl
theorem yj3 {r} (a0):type_of% (evS (λn=>zfz n a0) r λn=>zfz.eq_2 a0 n):=evS _ _ λ_=>rfl
theorem zun {r} (a0 a1):type_of% (evS (λn=>z7n n a0 a1) r λn=>z7n.eq_2 a0 a1 n):=evS _ _ λ_=>rfl
theorem zut {r} (a0 a1):type_of% (evS (λn=>z5b n a0 a1) r λn=>z5b.eq_2 a0 a1 n):=evS _ _ λ_=>rfl
theorem zvv {r} (a0 a1 a2 a3):type_of% (evS (λn=>z8p n a0 a1 a2 a3) r λn=>z8p.eq_2 a0 a1 a2 a3 n):=evS _ _ λ_=>rfl
theorem zu2 {r} (a0 a1 a2 a3):type_of% (evS (λn=>z5d n a0 a1 a2 a3) r λn=>z5d.eq_2 a0 a1 a2 a3 n):=evS _ _ λ_=>rfl
theorem zv1 {r} (a0 a1 a2 a3 a4):type_of% (evS (λn=>z55 n a0 a1 a2 a3 a4) r λn=>z55.eq_2 a0 a1 a2 a3 a4 n):=evS _ _ λ_=>rfl
theorem y9s {r} (a0):type_of% (evS (λn=>zcg n a0) r λn=>zcg.eq_2 a0 n):=evS _ _ λ_=>rfl
theorem yc1 {r} (a0):type_of% (evS (λn=>zdz n a0) r λn=>zdz.eq_2 a0 n):=evS _ _ λ_=>rfl
theorem yi2 {r} (a0):type_of% (evS (λn=>zdp n a0) r λn=>zdp.eq_2 a0 n):=evS _ _ λ_=>rfl
theorem zuz {r} (a0 a1):type_of% (evS (λn=>z11 n a0 a1) r λn=>z11.eq_2 a0 a1 n):=evS _ _ λ_=>rfl
theorem zvi {r} (a0 a1 a2):type_of% (evS (λn=>z1n n a0 a1 a2) r λn=>z1n.eq_2 a0 a1 a2 n):=evS _ _ λ_=>rfl
theorem y9n {r} (a0):type_of% (evS (λn=>zci n a0) r λn=>zci.eq_2 a0 n):=evS _ _ λ_=>rfl
theorem yld {r} (a0):type_of% (evS (λn=>z5n n a0) r λn=>z5n.eq_2 a0 n):=evS _ _ λ_=>rfl
theorem yh6 {r} (a0):type_of% (evS (λn=>zdf n a0) r λn=>zdf.eq_2 a0 n):=evS _ _ λ_=>rfl
theorem zvy {r} (a0 a1 a2):type_of% (evS (λn=>z7s n a0 a1 a2) r λn=>z7s.eq_2 a0 a1 a2 n):=evS _ _ λ_=>rfl
theorem y0y {r} (a0):type_of% (evS (λn=>zg7 n a0) r λn=>zg7.eq_2 a0 n):=evS _ _ λ_=>rfl
theorem zvu {r} (a0 a1):type_of% (evS (λn=>zbf n a0 a1) r λn=>zbf.eq_2 a0 a1 n):=evS _ _ λ_=>rfl
theorem zvp {r} (a0 a1):type_of% (evS (λn=>z0i n a0 a1) r λn=>z0i.eq_2 a0 a1 n):=evS _ _ λ_=>rfl
theorem zvw {r} (a0 a1):type_of% (evS (λn=>z8o n a0 a1) r λn=>z8o.eq_2 a0 a1 n):=evS _ _ λ_=>rfl
theorem yk8 {r} (a0):type_of% (evS (λn=>zdl n a0) r λn=>zdl.eq_2 a0 n):=evS _ _ λ_=>rfl
theorem znw {r} (a0 a1 a2):type_of% (evS (λn=>z81 n a0 a1 a2) r λn=>z81.eq_2 a0 a1 a2 n):=evS _ _ λ_=>rfl
theorem zns {r} (a0 a1 a2 a3):type_of% (evS (λn=>z7t n a0 a1 a2 a3) r λn=>z7t.eq_2 a0 a1 a2 a3 n):=evS _ _ λ_=>rfl
theorem y9y {r} (a0 a1):type_of% (evS (λn=>zcb n a0 a1) r λn=>zcb.eq_2 a0 a1 n):=evS _ _ λ_=>rfl
theorem y1y {r} (a0 a1):type_of% (evS (λn=>z4t n a0 a1) r λn=>z4t.eq_2 a0 a1 n):=evS _ _ λ_=>rfl
theorem yfl {r} (a0):type_of% (evS (λn=>zeg n a0) r λn=>zeg.eq_2 a0 n):=evS _ _ λ_=>rfl
theorem y3z {r} (a0):type_of% (evS (λn=>z17 n a0) r λn=>z17.eq_2 a0 n):=evS _ _ λ_=>rfl
theorem yhx {r} (a0):type_of% (evS (λn=>zdk n a0) r λn=>zdk.eq_2 a0 n):=evS _ _ λ_=>rfl
theorem zuw {r} (a0 a1):type_of% (evS (λn=>z1r n a0 a1) r λn=>z1r.eq_2 a0 a1 n):=evS _ _ λ_=>rfl
theorem zuy {r} (a0 a1):type_of% (evS (λn=>z8m n a0 a1) r λn=>z8m.eq_2 a0 a1 n):=evS _ _ λ_=>rfl
theorem zvr {r} (a0 a1 a2):type_of% (evS (λn=>z7y n a0 a1 a2) r λn=>z7y.eq_2 a0 a1 a2 n):=evS _ _ λ_=>rfl
theorem zue {r} (a0 a1):type_of% (evS (λn=>z3e n a0 a1) r λn=>z3e.eq_2 a0 a1 n):=evS _ _ λ_=>rfl
theorem zuu {r} (a0 a1):type_of% (evS (λn=>z7v n a0 a1) r λn=>z7v.eq_2 a0 a1 n):=evS _ _ λ_=>rfl
theorem ye0 {r} (a0):type_of% (evS (λn=>ze0 n a0) r λn=>ze0.eq_2 a0 n):=evS _ _ λ_=>rfl
theorem y52 {r} (a0 a1):type_of% (evS (λn=>z78 n a0 a1) r λn=>z78.eq_2 a0 a1 n):=evS _ _ λ_=>rfl
theorem yiw {r} (a0 a1):type_of% (evS (λn=>z4a n a0 a1) r λn=>z4a.eq_2 a0 a1 n):=evS _ _ λ_=>rfl
theorem zvd {r} (a0 a1 a2):type_of% (evS (λn=>z1q n a0 a1 a2) r λn=>z1q.eq_2 a0 a1 a2 n):=evS _ _ λ_=>rfl
theorem zv0 {r} (a0 a1 a2):type_of% (evS (λn=>z8k n a0 a1 a2) r λn=>z8k.eq_2 a0 a1 a2 n):=evS _ _ λ_=>rfl
theorem yer {r} (a0):type_of% (evS (λn=>ze3 n a0) r λn=>ze3.eq_2 a0 n):=evS _ _ λ_=>rfl
theorem yly {r} (a0):type_of% (evS (λn=>zd4 n a0) r λn=>zd4.eq_2 a0 n):=evS _ _ λ_=>rfl
theorem y70 {r} (a0 a1):type_of% (evS (λn=>z5c n a0 a1) r λn=>z5c.eq_2 a0 a1 n):=evS _ _ λ_=>rfl
theorem y5k {r} (a0 a1):type_of% (evS (λn=>z15 n a0 a1) r λn=>z15.eq_2 a0 a1 n):=evS _ _ λ_=>rfl
theorem y69 {r} (a0 a1):type_of% (evS (λn=>z1o n a0 a1) r λn=>z1o.eq_2 a0 a1 n):=evS _ _ λ_=>rfl
theorem zuc {r} (a0 a1):type_of% (evS (λn=>z89 n a0 a1) r λn=>z89.eq_2 a0 a1 n):=evS _ _ λ_=>rfl
theorem yf7 {r} (a0):type_of% (evS (λn=>z2o n a0) r λn=>z2o.eq_2 a0 n):=evS _ _ λ_=>rfl
theorem y3j {r} (a0 a1):type_of% (evS (λn=>z6k n a0 a1) r λn=>z6k.eq_2 a0 a1 n):=evS _ _ λ_=>rfl
theorem yoh {r} (a0):type_of% (evS (λn=>zfn n a0) r λn=>zfn.eq_2 a0 n):=evS _ _ λ_=>rfl
theorem yaj {r} (a0 a1):type_of% (evS (λn=>za5 n a0 a1) r λn=>za5.eq_2 a0 a1 n):=evS _ _ λ_=>rfl
theorem yac {r} (a0):type_of% (evS (λn=>zam n a0) r λn=>zam.eq_2 a0 n):=evS _ _ λ_=>rfl
theorem y97 {r} (a0):type_of% (evS (λn=>zc7 n a0) r λn=>zc7.eq_2 a0 n):=evS _ _ λ_=>rfl
theorem zr9 {r} (a0 a1):type_of% (evS (λn=>z1g n a0 a1) r λn=>z1g.eq_2 a0 a1 n):=evS _ _ λ_=>rfl
theorem y26 {r} (a0 a1):type_of% (evS (λn=>z4n n a0 a1) r λn=>z4n.eq_2 a0 a1 n):=evS _ _ λ_=>rfl
theorem y2n {r} (a0):type_of% (evS (λn=>z4w n a0) r λn=>z4w.eq_2 a0 n):=evS _ _ λ_=>rfl
theorem zky {r} (a0 a1):type_of% (evS (λn=>z84 n a0 a1) r λn=>z84.eq_2 a0 a1 n):=evS _ _ λ_=>rfl
theorem zqv {r} (a0 a1):type_of% (evS (λn=>z09 n a0 a1) r λn=>z09.eq_2 a0 a1 n):=evS _ _ λ_=>rfl
theorem y28 {r} (a0):type_of% (evS (λn=>z4y n a0) r λn=>z4y.eq_2 a0 n):=evS _ _ λ_=>rfl
theorem zpy {r} (a0 a1):type_of% (evS (λn=>z2u n a0 a1) r λn=>z2u.eq_2 a0 a1 n):=evS _ _ λ_=>rfl
theorem zqw {r} (a0 a1 a2):type_of% (evS (λn=>z0s n a0 a1 a2) r λn=>z0s.eq_2 a0 a1 a2 n):=evS _ _ λ_=>rfl
theorem y92 {r} (a0):type_of% (evS (λn=>zca n a0) r λn=>zca.eq_2 a0 n):=evS _ _ λ_=>rfl
theorem zr7 {r} (a0 a1):type_of% (evS (λn=>z2m n a0 a1) r λn=>z2m.eq_2 a0 a1 n):=evS _ _ λ_=>rfl
theorem zq6 {r} (a0 a1 a2):type_of% (evS (λn=>z4v n a0 a1 a2) r λn=>z4v.eq_2 a0 a1 a2 n):=evS _ _ λ_=>rfl
theorem zq2 {r} (a0 a1):type_of% (evS (λn=>z2z n a0 a1) r λn=>z2z.eq_2 a0 a1 n):=evS _ _ λ_=>rfl
theorem zqi {r} (a0 a1 a2 a3):type_of% (evS (λn=>z2k n a0 a1 a2 a3) r λn=>z2k.eq_2 a0 a1 a2 a3 n):=evS _ _ λ_=>rfl
theorem zqp {r} (a0 a1 a2 a3):type_of% (evS (λn=>z2n n a0 a1 a2 a3) r λn=>z2n.eq_2 a0 a1 a2 a3 n):=evS _ _ λ_=>rfl
theorem zqr {r} (a0 a1 a2 a3 a4 a5):type_of% (evS (λn=>z2p n a0 a1 a2 a3 a4 a5) r λn=>z2p.eq_2 a0 a1 a2 a3 a4 a5 n):=evS _ _ λ_=>rfl
theorem zqj {r} (a0 a1 a2 a3 a4 a5):type_of% (evS (λn=>z2x n a0 a1 a2 a3 a4 a5) r λn=>z2x.eq_2 a0 a1 a2 a3 a4 a5 n):=evS _ _ λ_=>rfl
theorem ybt {r} (a0):type_of% (evS (λn=>z6p n a0) r λn=>z6p.eq_2 a0 n):=evS _ _ λ_=>rfl
theorem zt3 {r} (a0 a1 a2):type_of% (evS (λn=>z6e n a0 a1 a2) r λn=>z6e.eq_2 a0 a1 a2 n):=evS _ _ λ_=>rfl
theorem yvl {r} (a0 a1):type_of% (evS (λn=>z44 n a0 a1) r λn=>z44.eq_2 a0 a1 n):=evS _ _ λ_=>rfl
theorem ycw {r} (a0):type_of% (evS (λn=>zc4 n a0) r λn=>zc4.eq_2 a0 n):=evS _ _ λ_=>rfl
theorem zs0 {r} (a0 a1):type_of% (evS (λn=>z68 n a0 a1) r λn=>z68.eq_2 a0 a1 n):=evS _ _ λ_=>rfl
theorem yca {r} (a0):type_of% (evS (λn=>z16 n a0) r λn=>z16.eq_2 a0 n):=evS _ _ λ_=>rfl
theorem zrl {r} (a0 a1 a2):type_of% (evS (λn=>z5s n a0 a1 a2) r λn=>z5s.eq_2 a0 a1 a2 n):=evS _ _ λ_=>rfl
theorem ybx {r} (a0 a1):type_of% (evS (λn=>z4c n a0 a1) r λn=>z4c.eq_2 a0 a1 n):=evS _ _ λ_=>rfl
theorem y5a {r} (a0):type_of% (evS (λn=>z9n n a0) r λn=>z9n.eq_2 a0 n):=evS _ _ λ_=>rfl
theorem zoa {r} (a0 a1):type_of% (evS (λn=>z2q n a0 a1) r λn=>z2q.eq_2 a0 a1 n):=evS _ _ λ_=>rfl
theorem y6i {r} (a0):type_of% (evS (λn=>zbh n a0) r λn=>zbh.eq_2 a0 n):=evS _ _ λ_=>rfl
theorem zpc {r} (a0 a1):type_of% (evS (λn=>z3k n a0 a1) r λn=>z3k.eq_2 a0 a1 n):=evS _ _ λ_=>rfl
theorem zp1 {r} (a0 a1):type_of% (evS (λn=>z1x n a0 a1) r λn=>z1x.eq_2 a0 a1 n):=evS _ _ λ_=>rfl
theorem yjz {r} (a0 a1):type_of% (evS (λn=>zd8 n a0 a1) r λn=>zd8.eq_2 a0 a1 n):=evS _ _ λ_=>rfl
theorem zur {r} (a0 a1 a2):type_of% (evS (λn=>z5h n a0 a1 a2) r λn=>z5h.eq_2 a0 a1 a2 n):=evS _ _ λ_=>rfl
theorem ztw {r} (a0 a1 a2 a3):type_of% (evS (λn=>z8b n a0 a1 a2 a3) r λn=>z8b.eq_2 a0 a1 a2 a3 n):=evS _ _ λ_=>rfl
theorem zv4 {r} (a0 a1 a2 a3):type_of% (evS (λn=>z8a n a0 a1 a2 a3) r λn=>z8a.eq_2 a0 a1 a2 a3 n):=evS _ _ λ_=>rfl
theorem y7q {r} (a0 a1):type_of% (evS (λn=>z57 n a0 a1) r λn=>z57.eq_2 a0 a1 n):=evS _ _ λ_=>rfl
theorem zug {r} (a0 a1 a2):type_of% (evS (λn=>z7o n a0 a1 a2) r λn=>z7o.eq_2 a0 a1 a2 n):=evS _ _ λ_=>rfl
theorem ygw {r} (a0):type_of% (evS (λn=>zc2 n a0) r λn=>zc2.eq_2 a0 n):=evS _ _ λ_=>rfl
theorem ya5 {r} (a0 a1):type_of% (evS (λn=>zar n a0 a1) r λn=>zar.eq_2 a0 a1 n):=evS _ _ λ_=>rfl
theorem zrh {r} (a0 a1 a2):type_of% (evS (λn=>z4u n a0 a1 a2) r λn=>z4u.eq_2 a0 a1 a2 n):=evS _ _ λ_=>rfl
theorem ydn {r} (a0):type_of% (evS (λn=>zei n a0) r λn=>zei.eq_2 a0 n):=evS _ _ λ_=>rfl
theorem zrz {r} (a0 a1 a2):type_of% (evS (λn=>z67 n a0 a1 a2) r λn=>z67.eq_2 a0 a1 a2 n):=evS _ _ λ_=>rfl
theorem zte {r} (a0 a1 a2 a3):type_of% (evS (λn=>z66 n a0 a1 a2 a3) r λn=>z66.eq_2 a0 a1 a2 a3 n):=evS _ _ λ_=>rfl
theorem yjl {r} (a0):type_of% (evS (λn=>zb9 n a0) r λn=>zb9.eq_2 a0 n):=evS _ _ λ_=>rfl
theorem zty {r} (a0 a1 a2):type_of% (evS (λn=>z83 n a0 a1 a2) r λn=>z83.eq_2 a0 a1 a2 n):=evS _ _ λ_=>rfl
theorem zuq {r} (a0 a1 a2 a3):type_of% (evS (λn=>z58 n a0 a1 a2 a3) r λn=>z58.eq_2 a0 a1 a2 a3 n):=evS _ _ λ_=>rfl
theorem zv5 {r} (a0 a1 a2 a3 a4 a5):type_of% (evS (λn=>z8w n a0 a1 a2 a3 a4 a5) r λn=>z8w.eq_2 a0 a1 a2 a3 a4 a5 n):=evS _ _ λ_=>rfl
theorem y7b {r} (a0 a1 a2 a3 a4):type_of% (evS (λn=>z8j n a0 a1 a2 a3 a4) r λn=>z8j.eq_2 a0 a1 a2 a3 a4 n):=evS _ _ λ_=>rfl
theorem zv6 {r} (a0 a1 a2 a3 a4 a5):type_of% (evS (λn=>z8t n a0 a1 a2 a3 a4 a5) r λn=>z8t.eq_2 a0 a1 a2 a3 a4 a5 n):=evS _ _ λ_=>rfl
theorem ye3 {r} (a0):type_of% (evS (λn=>zec n a0) r λn=>zec.eq_2 a0 n):=evS _ _ λ_=>rfl
theorem zrt {r} (a0 a1 a2):type_of% (evS (λn=>z74 n a0 a1 a2) r λn=>z74.eq_2 a0 a1 a2 n):=evS _ _ λ_=>rfl
theorem ztc {r} (a0 a1 a2):type_of% (evS (λn=>z42 n a0 a1 a2) r λn=>z42.eq_2 a0 a1 a2 n):=evS _ _ λ_=>rfl
theorem zrr {r} (a0 a1 a2 a3 a4 a5):type_of% (evS (λn=>z3s n a0 a1 a2 a3 a4 a5) r λn=>z3s.eq_2 a0 a1 a2 a3 a4 a5 n):=evS _ _ λ_=>rfl
theorem zt1 {r} (a0 a1 a2 a3 a4 a5 a6 a7):type_of% (evS (λn=>z62 n a0 a1 a2 a3 a4 a5 a6 a7) r λn=>z62.eq_2 a0 a1 a2 a3 a4 a5 a6 a7 n):=evS _ _ λ_=>rfl
theorem zs7 {r} (a0 a1 a2 a3 a4):type_of% (evS (λn=>z43 n a0 a1 a2 a3 a4) r λn=>z43.eq_2 a0 a1 a2 a3 a4 n):=evS _ _ λ_=>rfl
theorem ybl {r} (a0):type_of% (evS (λn=>z45 n a0) r λn=>z45.eq_2 a0 n):=evS _ _ λ_=>rfl
theorem zrv {r} (a0 a1):type_of% (evS (λn=>z61 n a0 a1) r λn=>z61.eq_2 a0 a1 n):=evS _ _ λ_=>rfl
theorem zrw {r} (a0 a1 a2 a3):type_of% (evS (λn=>z5p n a0 a1 a2 a3) r λn=>z5p.eq_2 a0 a1 a2 a3 n):=evS _ _ λ_=>rfl
theorem yix {r} (a0 a1):type_of% (evS (λn=>z4b n a0 a1) r λn=>z4b.eq_2 a0 a1 n):=evS _ _ λ_=>rfl
theorem ym1 {r} (a0 a1):type_of% (evS (λn=>zdu n a0 a1) r λn=>zdu.eq_2 a0 a1 n):=evS _ _ λ_=>rfl
theorem yjm {r} (a0 a1):type_of% (evS (λn=>z5o n a0 a1) r λn=>z5o.eq_2 a0 a1 n):=evS _ _ λ_=>rfl
theorem zup {r} (a0 a1 a2):type_of% (evS (λn=>z35 n a0 a1 a2) r λn=>z35.eq_2 a0 a1 a2 n):=evS _ _ λ_=>rfl
theorem zu0 {r} (a0 a1 a2):type_of% (evS (λn=>z7r n a0 a1 a2) r λn=>z7r.eq_2 a0 a1 a2 n):=evS _ _ λ_=>rfl
theorem yji {r} (a0 a1):type_of% (evS (λn=>z92 n a0 a1) r λn=>z92.eq_2 a0 a1 n):=evS _ _ λ_=>rfl
theorem zui {r} (a0 a1 a2):type_of% (evS (λn=>z8d n a0 a1 a2) r λn=>z8d.eq_2 a0 a1 a2 n):=evS _ _ λ_=>rfl
theorem ytf {r} (a0 a1):type_of% (evS (λn=>zct n a0 a1) r λn=>zct.eq_2 a0 a1 n):=evS _ _ λ_=>rfl
theorem zx5 {r} (a0 a1 a2):type_of% (evS (λn=>z7h n a0 a1 a2) r λn=>z7h.eq_2 a0 a1 a2 n):=evS _ _ λ_=>rfl
theorem zwy {r} (a0 a1 a2 a3):type_of% (evS (λn=>zao n a0 a1 a2 a3) r λn=>zao.eq_2 a0 a1 a2 a3 n):=evS _ _ λ_=>rfl
theorem zx8 {r} (a0 a1 a2 a3):type_of% (evS (λn=>z9w n a0 a1 a2 a3) r λn=>z9w.eq_2 a0 a1 a2 a3 n):=evS _ _ λ_=>rfl
theorem ydi {r} (a0 a1):type_of% (evS (λn=>zbu n a0 a1) r λn=>zbu.eq_2 a0 a1 n):=evS _ _ λ_=>rfl
theorem zt2 {r} (a0 a1 a2 a3):type_of% (evS (λn=>z73 n a0 a1 a2 a3) r λn=>z73.eq_2 a0 a1 a2 a3 n):=evS _ _ λ_=>rfl
theorem zse {r} (a0 a1 a2 a3 a4 a5):type_of% (evS (λn=>z3v n a0 a1 a2 a3 a4 a5) r λn=>z3v.eq_2 a0 a1 a2 a3 a4 a5 n):=evS _ _ λ_=>rfl
theorem zss {r} (a0 a1 a2 a3 a4 a5 a6):type_of% (evS (λn=>z2e n a0 a1 a2 a3 a4 a5 a6) r λn=>z2e.eq_2 a0 a1 a2 a3 a4 a5 a6 n):=evS _ _ λ_=>rfl
theorem zsi {r} (a0 a1 a2 a3 a4 a5):type_of% (evS (λn=>z9m n a0 a1 a2 a3 a4 a5) r λn=>z9m.eq_2 a0 a1 a2 a3 a4 a5 n):=evS _ _ λ_=>rfl
theorem zy1 {r} (a0 a1):type_of% (evS (λn=>zbx n a0 a1) r λn=>zbx.eq_2 a0 a1 n):=evS _ _ λ_=>rfl
theorem zkz {r} (a0):type_of% (evS (λn=>kzs n a0) r λn=>kzs.eq_2 a0 n):=evS _ _ λ_=>rfl
theorem z3f {r} (a0 a1 a2 a3 a4):type_of% (evS (λn=>zzo n a0 a1 a2 a3 a4) r λn=>zzo.eq_2 a0 a1 a2 a3 a4 n):=evS _ _ λ_=>rfl
theorem z9s {r} (a0 a1 a2 a3 a4):type_of% (evS (λn=>kzw n a0 a1 a2 a3 a4) r λn=>kzw.eq_2 a0 a1 a2 a3 a4 n):=evS _ _ λ_=>rfl
theorem z3a {r} (a0 a1 a2 a3):type_of% (evS (λn=>kzh n a0 a1 a2 a3) r λn=>kzh.eq_2 a0 a1 a2 a3 n):=evS _ _ λ_=>rfl
theorem yf5 {r} (a0 a1):type_of% (evS (λn=>zem n a0 a1) r λn=>zem.eq_2 a0 a1 n):=evS _ _ λ_=>rfl
theorem zik {r} (a0 a1):type_of% (evS (λn=>kzo n a0 a1) r λn=>kzo.eq_2 a0 a1 n):=evS _ _ λ_=>rfl
theorem z2a {r} (a0 a1 a2 a3):type_of% (evS (λn=>kze n a0 a1 a2 a3) r λn=>kze.eq_2 a0 a1 a2 a3 n):=evS _ _ λ_=>rfl
theorem yqp {r} (a0 a1):type_of% (evS (λn=>zfl n a0 a1) r λn=>zfl.eq_2 a0 a1 n):=evS _ _ λ_=>rfl
theorem yan {r} (a0 a1):type_of% (evS (λn=>z9u n a0 a1) r λn=>z9u.eq_2 a0 a1 n):=evS _ _ λ_=>rfl
theorem y4k {r} (a0 a1):type_of% (evS (λn=>z79 n a0 a1) r λn=>z79.eq_2 a0 a1 n):=evS _ _ λ_=>rfl
theorem y1r {r} (a0 a1):type_of% (evS (λn=>z4s n a0 a1) r λn=>z4s.eq_2 a0 a1 n):=evS _ _ λ_=>rfl
theorem zyl {r} (a0 a1):type_of% (evS (λn=>z2y n a0 a1) r λn=>z2y.eq_2 a0 a1 n):=evS _ _ λ_=>rfl
theorem y31 {r} (a0 a1):type_of% (evS (λn=>z4r n a0 a1) r λn=>z4r.eq_2 a0 a1 n):=evS _ _ λ_=>rfl
theorem y9d {r} (a0 a1):type_of% (evS (λn=>zai n a0 a1) r λn=>zai.eq_2 a0 a1 n):=evS _ _ λ_=>rfl
theorem ykn {r} (a0 a1):type_of% (evS (λn=>zdg n a0 a1) r λn=>zdg.eq_2 a0 a1 n):=evS _ _ λ_=>rfl
theorem y3v {r} (a0 a1 a2):type_of% (evS (λn=>z9t n a0 a1 a2) r λn=>z9t.eq_2 a0 a1 a2 n):=evS _ _ λ_=>rfl
theorem zge {r} (a0 a1 a2):type_of% (evS (λn=>kzr n a0 a1 a2) r λn=>kzr.eq_2 a0 a1 a2 n):=evS _ _ λ_=>rfl
theorem z1b {r} (a0 a1 a2 a3 a4):type_of% (evS (λn=>yzc n a0 a1 a2 a3 a4) r λn=>yzc.eq_2 a0 a1 a2 a3 a4 n):=evS _ _ λ_=>rfl
theorem zez {r} (a0 a1 a2):type_of% (evS (λn=>zzh n a0 a1 a2) r λn=>zzh.eq_2 a0 a1 a2 n):=evS _ _ λ_=>rfl
theorem yaz {r} (a0 a1 a2):type_of% (evS (λn=>zc9 n a0 a1 a2) r λn=>zc9.eq_2 a0 a1 a2 n):=evS _ _ λ_=>rfl
theorem zpx {r} (a0 a1 a2 a3 a4):type_of% (evS (λn=>z4j n a0 a1 a2 a3 a4) r λn=>z4j.eq_2 a0 a1 a2 a3 a4 n):=evS _ _ λ_=>rfl
theorem zqq {r} (a0 a1 a2 a3 a4 a5 a6 a7):type_of% (evS (λn=>z4p n a0 a1 a2 a3 a4 a5 a6 a7) r λn=>z4p.eq_2 a0 a1 a2 a3 a4 a5 a6 a7 n):=evS _ _ λ_=>rfl
theorem zr5 {r} (a0 a1 a2 a3 a4 a5 a6 a7 a8 a9 a10 a11):type_of% (evS (λn=>z4z n a0 a1 a2 a3 a4 a5 a6 a7 a8 a9 a10 a11) r λn=>z4z.eq_2 a0 a1 a2 a3 a4 a5 a6 a7 a8 a9 a10 a11 n):=evS _ _ λ_=>rfl
theorem y9h {r} (a0 a1):type_of% (evS (λn=>zan n a0 a1) r λn=>zan.eq_2 a0 a1 n):=evS _ _ λ_=>rfl
theorem zpz {r} (a0 a1 a2 a3 a4 a5 a6 a7 a8):type_of% (evS (λn=>z50 n a0 a1 a2 a3 a4 a5 a6 a7 a8) r λn=>z50.eq_2 a0 a1 a2 a3 a4 a5 a6 a7 a8 n):=evS _ _ λ_=>rfl
theorem zq1 {r} (a0 a1 a2 a3 a4 a5 a6 a7 a8 a9 a10):type_of% (evS (λn=>z1f n a0 a1 a2 a3 a4 a5 a6 a7 a8 a9 a10) r λn=>z1f.eq_2 a0 a1 a2 a3 a4 a5 a6 a7 a8 a9 a10 n):=evS _ _ λ_=>rfl
theorem zql {r} (a0 a1 a2 a3 a4 a5 a6 a7 a8):type_of% (evS (λn=>z8e n a0 a1 a2 a3 a4 a5 a6 a7 a8) r λn=>z8e.eq_2 a0 a1 a2 a3 a4 a5 a6 a7 a8 n):=evS _ _ λ_=>rfl
theorem zx1 {r} (a0 a1):type_of% (evS (λn=>zap n a0 a1) r λn=>zap.eq_2 a0 a1 n):=evS _ _ λ_=>rfl
theorem ym3 {r} (a0 a1):type_of% (evS (λn=>zdj n a0 a1) r λn=>zdj.eq_2 a0 a1 n):=evS _ _ λ_=>rfl
theorem y2i {r} (a0 a1):type_of% (evS (λn=>z52 n a0 a1) r λn=>z52.eq_2 a0 a1 n):=evS _ _ λ_=>rfl
theorem zxp {r} (a0 a1):type_of% (evS (λn=>z56 n a0 a1) r λn=>z56.eq_2 a0 a1 n):=evS _ _ λ_=>rfl
theorem zl9 {r} (a0 a1 a2):type_of% (evS (λn=>zzr n a0 a1 a2) r λn=>zzr.eq_2 a0 a1 a2 n):=evS _ _ λ_=>rfl
theorem zl6 {r} (a0 a1 a2):type_of% (evS (λn=>z14 n a0 a1 a2) r λn=>z14.eq_2 a0 a1 a2 n):=evS _ _ λ_=>rfl
theorem zl8 {r} (a0 a1 a2 a3):type_of% (evS (λn=>z0b n a0 a1 a2 a3) r λn=>z0b.eq_2 a0 a1 a2 a3 n):=evS _ _ λ_=>rfl
theorem y21 {r} (a0 a1):type_of% (evS (λn=>z8l n a0 a1) r λn=>z8l.eq_2 a0 a1 n):=evS _ _ λ_=>rfl
theorem zng {r} (a0 a1 a2):type_of% (evS (λn=>z0w n a0 a1 a2) r λn=>z0w.eq_2 a0 a1 a2 n):=evS _ _ λ_=>rfl
theorem znf {r} (a0 a1 a2):type_of% (evS (λn=>z2c n a0 a1 a2) r λn=>z2c.eq_2 a0 a1 a2 n):=evS _ _ λ_=>rfl
theorem y27 {r} (a0 a1):type_of% (evS (λn=>z8z n a0 a1) r λn=>z8z.eq_2 a0 a1 n):=evS _ _ λ_=>rfl
theorem znk {r} (a0 a1 a2):type_of% (evS (λn=>z0z n a0 a1 a2) r λn=>z0z.eq_2 a0 a1 a2 n):=evS _ _ λ_=>rfl
theorem znb {r} (a0 a1 a2):type_of% (evS (λn=>z2b n a0 a1 a2) r λn=>z2b.eq_2 a0 a1 a2 n):=evS _ _ λ_=>rfl
theorem znd {r} (a0 a1 a2):type_of% (evS (λn=>z29 n a0 a1 a2) r λn=>z29.eq_2 a0 a1 a2 n):=evS _ _ λ_=>rfl
theorem y6e {r} (a0 a1):type_of% (evS (λn=>zbk n a0 a1) r λn=>zbk.eq_2 a0 a1 n):=evS _ _ λ_=>rfl
theorem zp3 {r} (a0 a1 a2):type_of% (evS (λn=>z3j n a0 a1 a2) r λn=>z3j.eq_2 a0 a1 a2 n):=evS _ _ λ_=>rfl
theorem zpb {r} (a0 a1 a2 a3):type_of% (evS (λn=>z3g n a0 a1 a2 a3) r λn=>z3g.eq_2 a0 a1 a2 a3 n):=evS _ _ λ_=>rfl
theorem zp8 {r} (a0 a1 a2 a3 a4 a5):type_of% (evS (λn=>z3o n a0 a1 a2 a3 a4 a5) r λn=>z3o.eq_2 a0 a1 a2 a3 a4 a5 n):=evS _ _ λ_=>rfl
theorem y7o {r} (a0 a1):type_of% (evS (λn=>z8f n a0 a1) r λn=>z8f.eq_2 a0 a1 n):=evS _ _ λ_=>rfl
theorem zp6 {r} (a0 a1 a2 a3 a4 a5):type_of% (evS (λn=>z3i n a0 a1 a2 a3 a4 a5) r λn=>z3i.eq_2 a0 a1 a2 a3 a4 a5 n):=evS _ _ λ_=>rfl
theorem zp9 {r} (a0 a1 a2 a3 a4 a5 a6):type_of% (evS (λn=>z10 n a0 a1 a2 a3 a4 a5 a6) r λn=>z10.eq_2 a0 a1 a2 a3 a4 a5 a6 n):=evS _ _ λ_=>rfl
theorem zp7 {r} (a0 a1 a2 a3 a4 a5):type_of% (evS (λn=>z7c n a0 a1 a2 a3 a4 a5) r λn=>z7c.eq_2 a0 a1 a2 a3 a4 a5 n):=evS _ _ λ_=>rfl
theorem zvl {r} (a0 a1):type_of% (evS (λn=>z8q n a0 a1) r λn=>z8q.eq_2 a0 a1 n):=evS _ _ λ_=>rfl
theorem yl4 {r} (a0 a1):type_of% (evS (λn=>zg5 n a0 a1) r λn=>zg5.eq_2 a0 a1 n):=evS _ _ λ_=>rfl
theorem zgd {r} (a0 a1):type_of% (evS (λn=>yzj n a0 a1) r λn=>yzj.eq_2 a0 a1 n):=evS _ _ λ_=>rfl
theorem z19 {r} (a0 a1 a2 a3):type_of% (evS (λn=>kzc n a0 a1 a2 a3) r λn=>kzc.eq_2 a0 a1 a2 a3 n):=evS _ _ λ_=>rfl
theorem ywp {r} (a0 a1):type_of% (evS (λn=>zi5 n a0 a1) r λn=>zi5.eq_2 a0 a1 n):=evS _ _ λ_=>rfl
theorem yfu {r} (a0 a1):type_of% (evS (λn=>zby n a0 a1) r λn=>zby.eq_2 a0 a1 n):=evS _ _ λ_=>rfl
theorem zm9 {r} (a0 a1 a2 a3 a4):type_of% (evS (λn=>z65 n a0 a1 a2 a3 a4) r λn=>z65.eq_2 a0 a1 a2 a3 a4 n):=evS _ _ λ_=>rfl
theorem zms {r} (a0 a1 a2 a3 a4 a5 a6 a7):type_of% (evS (λn=>z6i n a0 a1 a2 a3 a4 a5 a6 a7) r λn=>z6i.eq_2 a0 a1 a2 a3 a4 a5 a6 a7 n):=evS _ _ λ_=>rfl
theorem ztg {r} (a0 a1 a2 a3 a4 a5 a6 a7):type_of% (evS (λn=>z9q n a0 a1 a2 a3 a4 a5 a6 a7) r λn=>z9q.eq_2 a0 a1 a2 a3 a4 a5 a6 a7 n):=evS _ _ λ_=>rfl
theorem y1v {r} (a0 a1 a2):type_of% (evS (λn=>z7u n a0 a1 a2) r λn=>z7u.eq_2 a0 a1 a2 n):=evS _ _ λ_=>rfl
theorem zlm {r} (a0 a1 a2):type_of% (evS (λn=>z0d n a0 a1 a2) r λn=>z0d.eq_2 a0 a1 a2 n):=evS _ _ λ_=>rfl
theorem z3m {r} (a0 a1 a2 a3 a4):type_of% (evS (λn=>zzi n a0 a1 a2 a3 a4) r λn=>zzi.eq_2 a0 a1 a2 a3 a4 n):=evS _ _ λ_=>rfl
theorem zj5 {r} (a0 a1 a2):type_of% (evS (λn=>kzp n a0 a1 a2) r λn=>kzp.eq_2 a0 a1 a2 n):=evS _ _ λ_=>rfl
theorem zud {r} (a0 a1):type_of% (evS (λn=>z8u n a0 a1) r λn=>z8u.eq_2 a0 a1 n):=evS _ _ λ_=>rfl
theorem zp2 {r} (a0 a1 a2 a3 a4 a5 a6 a7):type_of% (evS (λn=>z1w n a0 a1 a2 a3 a4 a5 a6 a7) r λn=>z1w.eq_2 a0 a1 a2 a3 a4 a5 a6 a7 n):=evS _ _ λ_=>rfl
theorem zp4 {r} (a0 a1 a2 a3 a4 a5 a6 a7):type_of% (evS (λn=>z7a n a0 a1 a2 a3 a4 a5 a6 a7) r λn=>z7a.eq_2 a0 a1 a2 a3 a4 a5 a6 a7 n):=evS _ _ λ_=>rfl
theorem yaa {r} (a0 a1):type_of% (evS (λn=>z9z n a0 a1) r λn=>z9z.eq_2 a0 a1 n):=evS _ _ λ_=>rfl
theorem zq7 {r} (a0 a1 a2):type_of% (evS (λn=>z2r n a0 a1 a2) r λn=>z2r.eq_2 a0 a1 a2 n):=evS _ _ λ_=>rfl
theorem zqs {r} (a0 a1 a2 a3):type_of% (evS (λn=>z4m n a0 a1 a2 a3) r λn=>z4m.eq_2 a0 a1 a2 a3 n):=evS _ _ λ_=>rfl
theorem zq9 {r} (a0 a1 a2 a3):type_of% (evS (λn=>z4q n a0 a1 a2 a3) r λn=>z4q.eq_2 a0 a1 a2 a3 n):=evS _ _ λ_=>rfl
theorem ydl {r} (a0 a1):type_of% (evS (λn=>zbp n a0 a1) r λn=>zbp.eq_2 a0 a1 n):=evS _ _ λ_=>rfl
theorem zt5 {r} (a0 a1 a2):type_of% (evS (λn=>z6s n a0 a1 a2) r λn=>z6s.eq_2 a0 a1 a2 n):=evS _ _ λ_=>rfl
theorem zmj {r} (a0 a1 a2 a3):type_of% (evS (λn=>z6z n a0 a1 a2 a3) r λn=>z6z.eq_2 a0 a1 a2 a3 n):=evS _ _ λ_=>rfl
theorem zm6 {r} (a0 a1 a2 a3 a4 a5):type_of% (evS (λn=>z77 n a0 a1 a2 a3 a4 a5) r λn=>z77.eq_2 a0 a1 a2 a3 a4 a5 n):=evS _ _ λ_=>rfl
theorem zsr {r} (a0 a1 a2 a3 a4 a5):type_of% (evS (λn=>z9o n a0 a1 a2 a3 a4 a5) r λn=>z9o.eq_2 a0 a1 a2 a3 a4 a5 n):=evS _ _ λ_=>rfl
theorem y4w {r} (a0 a1 a2 a3):type_of% (evS (λn=>z5r n a0 a1 a2 a3) r λn=>z5r.eq_2 a0 a1 a2 a3 n):=evS _ _ λ_=>rfl
theorem zsv {r} (a0 a1):type_of% (evS (λn=>z6f n a0 a1) r λn=>z6f.eq_2 a0 a1 n):=evS _ _ λ_=>rfl
theorem zo5 {r} (a0 a1 a2 a3 a4):type_of% (evS (λn=>z1d n a0 a1 a2 a3 a4) r λn=>z1d.eq_2 a0 a1 a2 a3 a4 n):=evS _ _ λ_=>rfl
theorem zod {r} (a0 a1 a2 a3 a4 a5 a6):type_of% (evS (λn=>z2v n a0 a1 a2 a3 a4 a5 a6) r λn=>z2v.eq_2 a0 a1 a2 a3 a4 a5 a6 n):=evS _ _ λ_=>rfl
theorem zob {r} (a0 a1 a2 a3 a4 a5 a6):type_of% (evS (λn=>z5g n a0 a1 a2 a3 a4 a5 a6) r λn=>z5g.eq_2 a0 a1 a2 a3 a4 a5 a6 n):=evS _ _ λ_=>rfl
theorem yh7 {r} (a0 a1):type_of% (evS (λn=>z90 n a0 a1) r λn=>z90.eq_2 a0 a1 n):=evS _ _ λ_=>rfl
theorem zuk {r} (a0 a1 a2):type_of% (evS (λn=>z88 n a0 a1 a2) r λn=>z88.eq_2 a0 a1 a2 n):=evS _ _ λ_=>rfl
theorem zpl {r} (a0 a1):type_of% (evS (λn=>z00 n a0 a1) r λn=>z00.eq_2 a0 a1 n):=evS _ _ λ_=>rfl
theorem ze5 {r} (a0 a1 a2):type_of% (evS (λn=>zzs n a0 a1 a2) r λn=>zzs.eq_2 a0 a1 a2 n):=evS _ _ λ_=>rfl
end Go.Proofs.YtahcjggdcmgpkaaGreat
namespace Go.Proofs.YtahcjggdcmgpkaaGreat
open Go Go.Ab
set_option linter.unusedVariables false
theorem z1k {α:Type} {x y:List α} (h:x.length+y.length<=268435456):ext x y=some (x++y):=by unfold ext;rw [if_pos (by simpa [zni] using h)]
set_option linter.unusedSimpArgs false
def I64 (x:Int):Prop := -9223372036854775808<=x∧x<=9223372036854775807
theorem yg9 {x:Int} (h:I64 x):Ev (λn=>zd5 n x) (x.natAbs:Int):=by
 unfold I64 at h
 rw [yhu]
 simp only [Ev.pif,Ev.kz0,decide_eq_true_eq]
 split
 ·rw [wUn (x:=x) (by omega),wUn (by omega)];omega
 ·rw [wU (by omega)];omega
theorem z003:∀(b a:Nat),Ev (λn=>z9y n (b:Int) (a:Int)) (Nat.gcd a b:Int):=by
 intro b
 induction b using Nat.strongRecOn with
 |ind b ih =>
  intro a
  rw [yap]
  by_cases hb:b=0
  · subst hb
    simp [Ev.pif,Ev.kz0]
  · have hm:rem .u64 (a:Int) (b:Int)=some ((a % b:Nat):Int):=by
     unfold rem;rw [if_neg (by omega),Int.tmod_eq_emod_of_nonneg (by omega)];simp
    rw [Ev.yz1 (by simpa using hb),Ev.kz2 hm]
    have:=ih (a % b) (Nat.mod_lt _ (by omega)) b
    rw [Nat.gcd_comm a b,Nat.gcd_rec b a,Nat.gcd_comm]
    exact this
theorem z02l {a b:Nat}:Ev (λn=>zih n (a:Int) (b:Int)) (Nat.gcd a b:Int):=by
 rw [ypc];exact z003 b a
def rok (r:kz6):Bool:=decide (1<=r.den)&&decide (r.den<=1000000000)&&decide (r.num.natAbs<=1000000000)&&(Nat.gcd r.num.natAbs r.den.natAbs==1)
theorem zph {r:kz6}:rok r=true↔1<=r.den∧r.den<=1000000000∧r.num.natAbs<=1000000000∧Nat.gcd r.num.natAbs r.den.natAbs=1:=by
 simp [rok,and_assoc]
theorem ywb {r:kz6} (h:I64 r.num):Ev (λn=>zel n r) (if rok r then 0 else 8):=by
 have l0:∀b,Ev (λn=>z2g n b) (if b then 8 else 0):=λb=>by
  rw [y4o];cases b <;> simp [Ev.pif,Ev.kz0]
 rw [yds]
 simp only [Ev.pif,decide_eq_true_eq]
 split
 ·refine (l0 _).to ?_;rw [if_pos rfl,if_neg];rw [zph];omega
 split
 ·refine (l0 _).to ?_;rw [if_pos rfl,if_neg];rw [zph];omega
 rw [Ev.yz0 (yg9 h)]
 simp only [Ev.pif,decide_eq_true_eq]
 split
 ·refine (l0 _).to ?_;rw [if_pos rfl,if_neg];rw [zph];omega
 rw [Ev.yz0 (yg9 h),wU (by omega)]
 have hd:r.den=(r.den.natAbs:Int):=by omega
 rw [hd,Ev.yz0 z02l]
 refine (l0 _).to ?_
 have:((((Nat.gcd r.num.natAbs r.den.natAbs:Nat):Int) != 1)=true)↔¬rok r=true:=by
  rw [zph]
  simp only [bne_iff_ne,ne_eq]
  omega
 by_cases hr:rok r=true
 ·rw [if_neg (by rw [this];simpa using hr),if_pos hr]
 ·rw [if_pos (by rw [this];exact hr),if_neg hr]
theorem z046 (a b:Int):Nat.gcd a.natAbs b.natAbs=Nat.gcd b.natAbs (a.tmod b).natAbs:=by
 rw [Int.natAbs_tmod,Nat.gcd_comm a.natAbs,Nat.gcd_rec b.natAbs a.natAbs,Nat.gcd_comm]
theorem yje:∀(m:Nat) (b a:Int),b.natAbs=m->I64 a->I64 b->¬a = -9223372036854775808->¬b = -9223372036854775808->Ev (λn=>z4t n b a) (Nat.gcd a.natAbs b.natAbs:Int):=by
 intro m
 induction m using Nat.strongRecOn with
 |ind m ih =>
  intro b a hm ha hb ha0 hb0
  unfold I64 at ha hb
  rw [y1y]
  by_cases h0:b=0
  · subst h0
    simp only [Ev.pif,Ev.kz0,decide_eq_true_eq]
    rw [if_neg (by simp)]
    split
    · rw [wI (by omega)];simp;omega
    · simp;omega
  · have hr:rem .i64 a b=some (a.tmod b):=by unfold rem;rw [if_neg h0]
    have h1:(a.tmod b).natAbs<b.natAbs:=by rw [Int.natAbs_tmod];exact Nat.mod_lt _ (by omega)
    rw [Ev.yz1 (by simpa using h0),Ev.kz2 hr]
    have:=ih _ (by rw [<-hm];exact h1) (a.tmod b) b rfl hb (by unfold I64;omega) hb0 (by omega)
    rw [z046 a b]
    exact this
theorem yny {a b:Int} (ha:I64 a) (hb:I64 b) (ha0:¬a = -9223372036854775808) (hb0:¬b = -9223372036854775808):Ev (λn=>zcb n a b) (Nat.gcd a.natAbs b.natAbs:Int):=by
 rw [y9y];exact yje _ b a rfl ha hb ha0 hb0
theorem ytv {r:kz6}:Ev (λn=>zeg n r) (if rok r then 0 else 8):=by
 have l0:∀b,Ev (λn=>z17 n b) (if b then 8 else 0):=λb=>by
  rw [y3z];cases b <;> simp [Ev.pif,Ev.kz0]
 rw [yfl]
 simp only [Ev.pif,decide_eq_true_eq]
 split
 ·refine (l0 _).to ?_;rw [if_pos rfl,if_neg];rw [zph];omega
 split
 ·refine (l0 _).to ?_;rw [if_pos rfl,if_neg];rw [zph];omega
 split
 ·refine (l0 _).to ?_;rw [if_pos rfl,if_neg];rw [zph];omega
 split
 ·refine (l0 _).to ?_;rw [if_pos rfl,if_neg];rw [zph];omega
 rw [Ev.yz0 (yny (by unfold I64;omega) (by unfold I64;omega) (by omega) (by omega))]
 refine (l0 _).to ?_
 have:((((Nat.gcd r.num.natAbs r.den.natAbs:Nat):Int) != 1)=true)↔¬rok r=true:=by
  rw [zph]
  simp only [bne_iff_ne,ne_eq]
  omega
 by_cases hr:rok r=true
 ·rw [if_neg (by rw [this];simpa using hr),if_pos hr]
 ·rw [if_pos (by rw [this];exact hr),if_neg hr]
end Go.Proofs.YtahcjggdcmgpkaaGreat
namespace Go.Proofs.YtahcjggdcmgpkaaGreat
open Go Go.Ab
set_option linter.unusedVariables false
set_option linter.unusedSimpArgs false
def wfR (r:kz6):Prop:=I64 r.num∧I64 r.den
def fdiv (a b:kz6):Int×Int:=(a.num * b.den,a.den * b.num)
end Go.Proofs.YtahcjggdcmgpkaaGreat
namespace Go.Proofs.YtahcjggdcmgpkaaGreat
open Go Go.Ab
set_option linter.unusedVariables false
set_option linter.unusedSimpArgs false
theorem ye9 {P:yz2->Prop} (h:∀v:yz2,(∀x,x∈v.list->P x)->P v) (v:yz2):P v:=h v λx hx=>ye9 h x
termination_by v
decreasing_by exact yz2.y3x hx
mutual
def zja:yz2->Nat
 |⟨k,_,_,_,l⟩=>if k=4 then 1+z9p l else 1
def z9p:List yz2->Nat
 |[]=>0
 |x::l=>zja x+z9p l
end
mutual
def zle:yz2->Nat
 |⟨k,_,_,_,l⟩=>if k=4 then max 1 (zou l) else 1
def zou:List yz2->Nat
 |[]=>0
 |x::l=>max (1+zle x) (zou l)
end
theorem zv2 (v:yz2):zja v=if v.kind=4 then 1+z9p v.list else 1:=by cases v;rw [zja]
theorem y4y (v:yz2):zle v=if v.kind=4 then max 1 (zou v.list) else 1:=by cases v;rw [zle]
theorem z05u {l:List yz2} {x:yz2} (h:x∈l):x.size<=(l.map yz2.size).sum:=by
 induction l with
 |nil=>cases h
 |cons y l ih =>
  rcases List.mem_cons.1 h with rfl|h
  · simp
  · have:=ih h;simp;omega
theorem zdy (v:yz2):(v.list.map yz2.size).sum+v.str.length+4<=v.size:=by rw [yz2.size_eq];omega
theorem zsh {v x:yz2} (h:x∈v.list):x.size<=v.size:=by have:=z05u h;have:=zdy v;omega
theorem zo6 (l:List yz2):l.length<=(l.map yz2.size).sum:=by
 induction l with
 |nil=>simp
 |cons x l ih=>have:=zdy x;simp;omega
theorem y02:∀v:yz2,zja v<=v.size:=ye9 λv ih=>by
 have:∀l:List yz2,(∀x,x∈l->x∈v.list)->z9p l<=(l.map yz2.size).sum:=λl=>by
  induction l with
  |nil=>intro _;simp [z9p]
  |cons x l ihl =>
   intro hl
   have:=ih x (hl x List.mem_cons_self)
   have:=ihl λy hy=>hl y (List.mem_cons_of_mem _ hy)
   simp [z9p];omega
 have:=this v.list λ_ h=>h
 have:=zdy v
 rw [zv2];split <;> omega
theorem yvz:∀v:yz2,zle v<=zja v:=ye9 λv ih=>by
 have:∀l:List yz2,(∀x,x∈l->x∈v.list)->zou l<=1+z9p l:=λl=>by
  induction l with
  |nil=>intro _;simp [z9p,zou]
  |cons x l ihl =>
   intro hl
   have:=ih x (hl x List.mem_cons_self)
   have:=ihl λy hy=>hl y (List.mem_cons_of_mem _ hy)
   simp [z9p,zou];omega
 have:=this v.list λ_ h=>h
 rw [zv2,y4y];split <;> omega
theorem ygl (l:List yz2):z9p l<=(l.map yz2.size).sum:=by
 induction l with
 |nil=>simp [z9p]
 |cons x l ih=>have:=y02 x;simp [z9p];omega
theorem ylu:∀v:yz2,v.size<=8388608->Ev (λn=>z8x n v) ((zja v:Int),(zle v:Int)):=ye9 λv ih hs=>by
 have l1:∀d p,Ev (λn=>z3l n d p) (p,d):=λd p=>by rw [y0r,Ev.kz0]
 have hsl:=zdy v
 have hlen:=zo6 v.list
 have loop:∀k,k<=v.list.length->∀d p:Nat,p+z9p (v.list.drop k)<=8388609->d<=8388609->Ev (λn=>z3h n (k:Int) (d:Int) (p:Int) v.list (v.list.length:Int)) (((p+z9p (v.list.drop k):Nat):Int),((max d (zou (v.list.drop k)):Nat):Int)) :=
  down (λd p hp hd=>by
   rw [zp5,Ev.kz1 (by simp)]
   refine (l1 _ _).to ?_
   simp [z9p,zou]) λk hk ihk d p hp hd=>by
   have hx:=List.getElem_mem hk
   have hsx:=zsh hx
   rw [<-List.getElem_cons_drop (h:=hk)] at hp ⊢
   simp only [z9p,zou] at hp ⊢
   have hpl:=y02 v.list[k]
   have hdl:=yvz v.list[k]
   rw [zp5,Ev.yz1 (by simpa using hk),Ev.kz2 (yz6 hk),yz2.yz5,Ev.yz0 (ih _ hx (by omega)),wI (x:=_+1) (by omega),wI (x:=(zle _:Int)+1) (by omega),wI (x:=(p:Int)+_) (by omega)]
   have e1:(k:Int)+1=((k+1:Nat):Int):=by omega
   have e2:(zle v.list[k]:Int)+1=((1+zle v.list[k]:Nat):Int):=by omega
   have e3:(p:Int)+(zja v.list[k]:Int)=((p+zja v.list[k]:Nat):Int):=by omega
   rw [e1,e2,e3,yb8]
   refine (ihk (max d (1+zle v.list[k])) (p+zja v.list[k]) (by omega) (by omega)).to ?_
   congr 2 <;> omega
 rw [y7p]
 by_cases hk:v.kind=4
 ·rw [Ev.yz1 (by simpa using hk)]
  have hv:=ygl v.list
  have:=loop 0 (Nat.zero_le _) 1 1 (by simp;omega) (by omega)
  refine this.to ?_
  rw [zv2,y4y,if_pos hk,if_pos hk,List.drop_zero]
 ·rw [Ev.kz1 (by simpa using hk)]
  refine (l1 1 1).to ?_
  rw [zv2,y4y,if_neg hk,if_neg hk];rfl
theorem y84:∀v:yz2,v.size<=8388608->Ev (λn=>z9b n v) (zja v:Int):=ye9 λv ih hs=>by
 have hsl:=zdy v
 have hlen:=zo6 v.list
 rw [yel,yz2.yz5,zv2]
 by_cases hk:v.kind=4
 ·rw [if_pos hk]
  have hkk:(v.kind==4)=true:=by simpa using hk
  have loop:∀k,k<=v.list.length->∀p:Nat,p+z9p (v.list.drop k)<=8388609->Ev (λn=>z6d n (k:Int) (p:Int) v) ((p+z9p (v.list.drop k):Nat):Int) :=
   down (λp hp=>by
    rw [zmf,Ev.kz1 (by simp),zmw,Ev.kz1 (by rfl),Ev.kz0]
    simp [z9p]) λk hk ihk p hp=>by
    have hx:=List.getElem_mem hk
    have hsx:=zsh hx
    rw [<-List.getElem_cons_drop (h:=hk)] at hp ⊢
    simp only [z9p] at hp ⊢
    have hpl:=y02 v.list[k]
    rw [zmf,Ev.yz1 (by simpa using hk),hkk,yz2.yz5,zmw,Ev.yz1 (by rfl),Ev.kz2 (yz6 hk),yz2.yz5,Ev.yz0 (ih _ hx (by omega)),wI (x:=_+1) (by omega),wI (x:=(p:Int)+_) (by omega)]
    have e1:(k:Int)+1=((k+1:Nat):Int):=by omega
    have e3:(p:Int)+(zja v.list[k]:Int)=((p+zja v.list[k]:Nat):Int):=by omega
    rw [e1,e3,yz2.yz5]
    refine (ihk (p+zja v.list[k]) (by omega)).to ?_
    congr 1;omega
  have hv:=ygl v.list
  exact loop 0 (Nat.zero_le _) 1 (by simp;omega)
 ·rw [if_neg hk]
  have hkk:(v.kind==4)=false:=by simpa using hk
  have l1:Ev (λn=>z5x n 0 1 false v) 1:=by rw [zmw,Ev.kz1 (by rfl),Ev.kz0]
  rw [zmf,hkk,yz2.yz5,Ev.pif]
  split <;> exact l1
theorem yya:∀v:yz2,v.size<=8388608->Ev (λn=>zdl n v) (zle v:Int):=ye9 λv ih hs=>by
 have hsl:=zdy v
 have hlen:=zo6 v.list
 rw [yk8,yz2.yz5,y4y]
 by_cases hk:v.kind=4
 ·rw [if_pos hk]
  have hkk:(v.kind==4)=true:=by simpa using hk
  have loop:∀k,k<=v.list.length->∀p:Nat,p<=8388609->Ev (λn=>z81 n (k:Int) (p:Int) v) ((max p (zou (v.list.drop k)):Nat):Int) :=
   down (λp hp=>by
    rw [znw,Ev.kz1 (by simp),zns,Ev.kz1 (by rfl),Ev.kz0]
    simp [zou]) λk hk ihk p hp=>by
    have hx:=List.getElem_mem hk
    have hsx:=zsh hx
    rw [<-List.getElem_cons_drop (h:=hk)]
    simp only [zou]
    have hpl:=y02 v.list[k]
    have hdl:=yvz v.list[k]
    rw [znw,Ev.yz1 (by simpa using hk),hkk,yz2.yz5,zns,Ev.yz1 (by rfl),Ev.kz2 (yz6 hk),yz2.yz5,Ev.yz0 (ih _ hx (by omega)),wI (x:=_+1) (by omega),wI (x:=1+_) (by omega)]
    have e1:(k:Int)+1=((k+1:Nat):Int):=by omega
    have e3:1+(zle v.list[k]:Int)=((1+zle v.list[k]:Nat):Int):=by omega
    rw [e1,e3,yz2.yz5,yb8]
    refine (ihk (max p (1+zle v.list[k])) (by omega)).to ?_
    congr 1;omega
  exact loop 0 (Nat.zero_le _) 1 (by omega)
 ·rw [if_neg hk]
  have hkk:(v.kind==4)=false:=by simpa using hk
  have l1:Ev (λn=>z7t n 0 1 false v) 1:=by rw [zns,Ev.kz1 (by rfl),Ev.kz0]
  rw [znw,hkk,yz2.yz5,Ev.pif]
  split <;> exact l1
end Go.Proofs.YtahcjggdcmgpkaaGreat
namespace Go.Proofs.YtahcjggdcmgpkaaGreat
open Go Go.Ab
set_option linter.unusedVariables false
set_option linter.unusedSimpArgs false
def v0:yz2:=⟨0,⟨0,0⟩,false,[],[]⟩
def zxa (c:UInt8):Bool:=decide (32<=c.toNat)&&decide (c.toNat<=126)
def nul (v:kz6):Bool:=v.num==0&&v.den==0
mutual
def zx4:yz2->Bool
 |⟨k,q,t,s,l⟩ =>
  if k=1 then rok q&&(!t&&(s.isEmpty&&l.isEmpty))
  else if k=2 then nul q&&(s.isEmpty&&l.isEmpty)
  else if k=3 then nul q&&(!t&&(l.isEmpty&&(decide (s.length<=60)&&s.all zxa)))
  else if k=4 then nul q&&(!t&&(s.isEmpty&&zqg l))
  else false
def zqg:List yz2->Bool
 |[]=>true
 |x::l=>zx4 x&&zqg l
end
theorem yus (v:yz2):zx4 v =
 if v.kind=1 then rok v.num&&(!v.truth&&(v.str.isEmpty&&v.list.isEmpty))
 else if v.kind=2 then nul v.num&&(v.str.isEmpty&&v.list.isEmpty)
 else if v.kind=3 then nul v.num&&(!v.truth&&(v.list.isEmpty&&(decide (v.str.length<=60)&&v.str.all zxa)))
 else if v.kind=4 then nul v.num&&(!v.truth&&(v.str.isEmpty&&zqg v.list))
 else false:=by cases v;rw [zx4]
def y2u (v:yz2):Int:=if 100<zja v∨6<zle v then 4 else if zx4 v then 0 else 8
theorem z07o {v:yz2} (h:v.wf):wfR v.num:=by
 rw [yz2.z5t] at h
 have:=h.2.1
 rw [kz6.z5t] at this
 simpa [wfR,I64,IntKind.min,IntKind.max,IntKind.signed,IntKind.bits] using this
theorem z06y {v:yz2} (h:v.wf):∀x∈v.list,x.wf:=by
 rw [yz2.z5t] at h;exact h.2.2.2.2
theorem zo2 {v:yz2}:Ev (λn=>z39 n v) (nul v.num&&(!v.truth&&(v.str.isEmpty&&v.list.isEmpty))):=by
 rw [y73]
 obtain ⟨k,⟨p,q⟩,t,s,l⟩:=v
 simp only [Ev.pif,Ev.kz0,nul,Bool.and_true]
 cases p==0 <;> cases q==0 <;> cases t <;> cases s <;> cases l <;> simp <;> omega
theorem yxj:∀v:yz2,v.wf->v.size<=8388608->Ev (λn=>zdt n v) (zx4 v):=ye9 λv ih hw hs=>by
 have hsl:=zdy v
 have hlen:=zo6 v.list
 rw [yh0,yus]
 by_cases h1:v.kind=1
 ·rw [if_pos h1,Ev.yz1 (by simpa using h1),Ev.yz0 (ywb (z07o hw).1)]
  cases hr:rok v.num
  ·rw [Ev.yz1 (by rfl),Ev.kz0];rfl
  ·rw [Ev.kz1 (by rfl)]
   exact zo2
 rw [if_neg h1,Ev.kz1 (by simpa using h1)]
 by_cases h2:v.kind=2
 ·rw [if_pos h2,Ev.yz1 (by simpa using h2)]
  exact zo2
 rw [if_neg h2,Ev.kz1 (by simpa using h2)]
 by_cases h3:v.kind=3
 ·rw [if_pos h3,Ev.yz1 (by simpa using h3)]
  by_cases hl:v.str.length<=60
  ·rw [Ev.kz1 (by simp;omega),yz2.yz5]
   have loop:∀w:yz2,∀k,k<=v.str.length->Ev (λn=>z7p n (k:Int) v w) ((v.str.drop k).all zxa&&(nul w.num&&(!w.truth&&(w.str.isEmpty&&w.list.isEmpty)))):=λw =>
    down (by
     rw [zu6,Ev.kz1 (by simp),yz2.yz5]
     simpa using zo2) λk hk ihk=>by
     have bad:Ev (λn=>z8y n (k:Int) true v w) false:=by rw [zvx,Ev.yz1 (by rfl),Ev.kz0]
     rw [<-List.getElem_cons_drop (h:=hk),List.all_cons]
     rw [zu6,Ev.yz1 (by simpa using hk),Ev.kz2 (yz6 hk),yz2.yz5,yz2.yz5]
     by_cases c1:v.str[k].toNat<32
     ·rw [Ev.yz1 (by simp;omega)]
      refine bad.to ?_
      have:zxa v.str[k]=false:=by simp [zxa];omega
      rw [this];rfl
     ·rw [Ev.kz1 (by simp;omega),Ev.kz2 (yz6 hk)]
      by_cases c2:v.str[k].toNat>126
      ·rw [show decide ((v.str[k].toNat:Int)>126)=true by simp;omega]
       refine bad.to ?_
       have:zxa v.str[k]=false:=by simp [zxa];omega
       rw [this];rfl
      ·rw [show decide ((v.str[k].toNat:Int)>126)=false by simp;omega,zvx,Ev.kz1 (by rfl),wrk (by omega),yz2.yz5,yz2.yz5]
       have:zxa v.str[k]=true:=by simp [zxa];omega
       rw [this,Bool.true_and]
       exact ihk
   refine (loop ⟨v.kind,v.num,v.truth,[],v.list⟩ 0 (Nat.zero_le _)).to ?_
   simp only [List.drop_zero,hl,decide_true,Bool.true_and,List.isEmpty_nil]
   cases nul v.num <;> cases v.truth <;> cases v.list.isEmpty <;> cases v.str.all zxa <;> rfl
  ·rw [Ev.yz1 (by simp;omega),Ev.kz0]
   simp [hl]
 rw [if_neg h3,Ev.kz1 (by simpa using h3)]
 by_cases h4:v.kind=4
 ·rw [if_pos h4,Ev.yz1 (by simpa using h4)]
  have loop:∀w:yz2,∀k,k<=v.list.length->Ev (λn=>z7z n (k:Int) v.list (v.list.length:Int) w) (zqg (v.list.drop k)&&(nul w.num&&(!w.truth&&(w.str.isEmpty&&w.list.isEmpty)))):=λw =>
   down (by
    rw [zu5,Ev.kz1 (by simp),yz2.yz5]
    simpa [zqg] using zo2) λk hk ihk=>by
    have hx:=List.getElem_mem hk
    have hsx:=zsh hx
    rw [<-List.getElem_cons_drop (h:=hk),zqg]
    rw [zu5,Ev.yz1 (by simpa using hk),Ev.kz2 (yz6 hk),yz2.yz5,Ev.yz0 (ih _ hx (z06y hw _ hx) (by omega))]
    cases hf:zx4 v.list[k]
    ·rw [Ev.yz1 (by rfl),Ev.kz0];rfl
    ·rw [Ev.kz1 (by rfl),wrk (by omega),yz2.yz5,Bool.true_and]
     exact ihk
  refine (loop ⟨v.kind,v.num,v.truth,v.str,[]⟩ 0 (Nat.zero_le _)).to ?_
  simp only [List.drop_zero,List.isEmpty_nil,Bool.and_true]
  cases nul v.num <;> cases v.truth <;> cases v.str.isEmpty <;> cases zqg v.list <;> rfl
 ·rw [if_neg h4,Ev.kz1 (by simpa using h4),Ev.kz0]
theorem yur {v:yz2} (hw:v.wf) (hs:v.size<=8388608):Ev (λn=>zed n v) (y2u v):=by
 have l0:∀b,Ev (λn=>z64 n b v) (if b then 4 else if zx4 v then 0 else 8):=λb=>by
  rw [y58]
  cases b
  ·rw [Ev.kz1 (by rfl),yz2.yz5,Ev.yz0 (yxj v hw hs)]
   cases zx4 v
   ·rw [Ev.yz1 (by rfl),Ev.kz0];rfl
   ·rw [Ev.kz1 (by rfl),Ev.kz0];rfl
  ·rw [Ev.yz1 (by rfl),Ev.kz0];rfl
 rw [yc6,yz2.yz5,Ev.yz0 (ylu v hs)]
 unfold y2u
 simp only [Ev.pif]
 by_cases h1:100<zja v
 ·rw [if_pos (by simp;omega),if_pos (.inl h1)];exact l0 true
 ·rw [if_neg (by simp;omega)]
  by_cases h2:6<zle v
  ·rw [if_pos (.inr h2),show decide ((zle v:Int)>6)=true by simp;omega];exact l0 true
  ·rw [if_neg (by omega),show decide ((zle v:Int)>6)=false by simp;omega];exact l0 false
theorem z008:∀v:yz2,v.size<=8388608->Ev (λn=>zdk n v) (zx4 v):=ye9 λv ih hs=>by
 have hsl:=zdy v
 have hlen:=zo6 v.list
 rw [yhx,yus]
 have hnul:((v.num.num==0)&&((v.num.den==0)&&true))=nul v.num:=by simp [nul]
 have hstr:((v.str.length:Int)==0)=v.str.isEmpty:=by cases v.str <;> simp;omega
 have hlst:((v.list.length:Int)==0)=v.list.isEmpty:=by cases v.list <;> simp;omega
 have hgt:decide ((v.list.length:Int)>0) = !v.list.isEmpty:=by cases v.list <;> simp
 have hgs:decide ((v.str.length:Int)>0) = !v.str.isEmpty:=by cases v.str <;> simp
 simp only [hnul,hstr,hlst,hgt,hgs]
 by_cases h1:v.kind=1
 ·rw [if_pos h1,Ev.yz1 (by simpa using h1),Ev.yz0 ytv]
  cases hr:rok v.num <;> cases ht:v.truth <;> cases hss:v.str.isEmpty <;> simp [Ev.pif,Ev.kz0]
 rw [if_neg h1,Ev.kz1 (by simpa using h1)]
 by_cases h2:v.kind=2
 ·rw [if_pos h2,Ev.yz1 (by simpa using h2)]
  cases hr:nul v.num <;> cases hss:v.str.isEmpty <;> simp [Ev.pif,Ev.kz0]
 rw [if_neg h2,Ev.kz1 (by simpa using h2)]
 by_cases h3:v.kind=3
 ·rw [if_pos h3,Ev.yz1 (by simpa using h3)]
  have bad:Ev (λn=>z1r n true v) false:=by rw [zuw,Ev.yz1 (by rfl),Ev.kz0]
  have loop:∀k,k<=v.str.length->Ev (λn=>z8m n (k:Int) v) ((v.str.drop k).all zxa) :=
   down (by
    rw [zuy,Ev.kz1 (by simp),Ev.kz0]
    simp) λk hk ihk=>by
    have bad:Ev (λn=>z7y n (k:Int) true v) false:=by rw [zvr,Ev.yz1 (by rfl),Ev.kz0]
    rw [<-List.getElem_cons_drop (h:=hk),List.all_cons]
    rw [zuy,Ev.yz1 (by simpa using hk),Ev.kz2 (yz6 hk),yz2.yz5]
    by_cases c1:v.str[k].toNat<32
    ·rw [Ev.yz1 (by simp;omega)]
     refine bad.to ?_
     have:zxa v.str[k]=false:=by simp [zxa];omega
     rw [this];rfl
    ·rw [Ev.kz1 (by simp;omega),Ev.kz2 (yz6 hk)]
     by_cases c2:v.str[k].toNat>126
     ·rw [show decide ((v.str[k].toNat:Int)>126)=true by simp;omega]
      refine bad.to ?_
      have:zxa v.str[k]=false:=by simp [zxa];omega
      rw [this];rfl
     ·rw [show decide ((v.str[k].toNat:Int)>126)=false by simp;omega,zvr,Ev.kz1 (by rfl),wrk (by omega),yz2.yz5]
      have:zxa v.str[k]=true:=by simp [zxa];omega
      rw [this,Bool.true_and]
      exact ihk
  have good:Ev (λn=>z1r n false v) (v.str.all zxa):=by
   rw [zuw,Ev.kz1 (by rfl),yz2.yz5];simpa using loop 0 (Nat.zero_le _)
  rw [yz2.yz5]
  cases hr:nul v.num
  ·rw [Ev.yz1 (by rfl)];exact bad
  rw [Ev.kz1 (by rfl)]
  cases ht:v.truth
  ·rw [Ev.kz1 (by rfl)]
   cases hl:v.list.isEmpty
   ·rw [Ev.yz1 (by rfl)];exact bad
   ·rw [Ev.kz1 (by rfl)]
    by_cases h60:v.str.length<=60
    ·rw [show decide ((v.str.length:Int)>60)=false by simp;omega]
     simpa [h60] using good
    ·rw [show decide ((v.str.length:Int)>60)=true by simp;omega]
     simpa [h60] using bad
  ·rw [Ev.yz1 (by rfl)];exact bad
 rw [if_neg h3,Ev.kz1 (by simpa using h3)]
 by_cases h4:v.kind=4
 ·rw [if_pos h4,Ev.yz1 (by simpa using h4)]
  have bad:Ev (λn=>z3e n true v) false:=by rw [zue,Ev.yz1 (by rfl),Ev.kz0]
  have loop:∀k,k<=v.list.length->Ev (λn=>z7v n (k:Int) v) (zqg (v.list.drop k)) :=
   down (by
    rw [zuu,Ev.kz1 (by simp),Ev.kz0]
    simp [zqg]) λk hk ihk=>by
    have hx:=List.getElem_mem hk
    have hsx:=zsh hx
    rw [<-List.getElem_cons_drop (h:=hk),zqg]
    rw [zuu,Ev.yz1 (by simpa using hk),Ev.kz2 (yz6 hk),yz2.yz5,Ev.yz0 (ih _ hx (by omega))]
    cases hf:zx4 v.list[k]
    ·rw [Ev.yz1 (by rfl),Ev.kz0];rfl
    ·rw [Ev.kz1 (by rfl),wrk (by omega),yz2.yz5,Bool.true_and]
     exact ihk
  have good:Ev (λn=>z3e n false v) (zqg v.list):=by
   rw [zue,Ev.kz1 (by rfl),yz2.yz5];simpa using loop 0 (Nat.zero_le _)
  rw [yz2.yz5]
  cases hr:nul v.num
  ·rw [Ev.yz1 (by rfl)];exact bad
  rw [Ev.kz1 (by rfl)]
  cases ht:v.truth
  ·rw [Ev.kz1 (by rfl)]
   cases hl:v.str.isEmpty
   ·exact bad
   ·simpa using good
  ·rw [Ev.yz1 (by rfl)];exact bad
 ·rw [if_neg h4,Ev.kz1 (by simpa using h4),Ev.kz0]
theorem yw2 {v:yz2} (hs:v.size<=8388608):Ev (λn=>ze0 n v) (y2u v):=by
 have l0:∀b,Ev (λn=>z78 n b v) (if b then 4 else if zx4 v then 0 else 8):=λb=>by
  rw [y52]
  cases b
  ·rw [Ev.kz1 (by rfl),yz2.yz5,Ev.yz0 (z008 v hs)]
   cases zx4 v
   ·rw [Ev.yz1 (by rfl),Ev.kz0];rfl
   ·rw [Ev.kz1 (by rfl),Ev.kz0];rfl
  ·rw [Ev.yz1 (by rfl),Ev.kz0];rfl
 rw [ye0,yz2.yz5,Ev.yz0 (y84 v hs)]
 unfold y2u
 by_cases h1:100<zja v
 ·rw [Ev.yz1 (by simp;omega),if_pos (.inl h1)];exact l0 true
 ·rw [Ev.kz1 (by simp;omega),Ev.yz0 (yya v hs)]
  by_cases h2:6<zle v
  ·rw [if_pos (.inr h2),show decide ((zle v:Int)>6)=true by simp;omega];exact l0 true
  ·rw [if_neg (by omega),show decide ((zle v:Int)>6)=false by simp;omega];exact l0 false
end Go.Proofs.YtahcjggdcmgpkaaGreat
namespace Go.Proofs.YtahcjggdcmgpkaaGreat
open Go Go.Ab
set_option linter.unusedVariables false
set_option linter.unusedSimpArgs false
theorem vext {a b:yz2} (h1:a.kind=b.kind) (h2:a.num.num=b.num.num) (h3:a.num.den=b.num.den) (h4:a.truth=b.truth) (h5:a.str=b.str) (h6:a.list=b.list):a=b:=by
 obtain ⟨k,⟨p,q⟩,t,s,l⟩:=a
 obtain ⟨k',⟨p',q'⟩,t',s',l'⟩:=b
 simp_all
theorem yua {α:Type} {x y:α} {l m:List α}:eqB (x::l) (y::m)=(eqB x y&&eqB l m):=by
 cases h:(eqB x y&&eqB l m)
 ·rw [zzp];intro hh;injection hh with h1 h2
  rw [Bool.and_eq_false_iff,zzp,zzp] at h
  exact h.elim (λh=>h h1) (λh=>h h2)
 ·rw [z9e]
  rw [Bool.and_eq_true,z9e,z9e] at h
  rw [h.1,h.2]
theorem yg6:∀a b:yz2,a.size<=8388608->Ev (λn=>z47 n a b) (eqB a b):=ye9 (P:=λa=>∀b:yz2,a.size<=8388608->Ev (λn=>z47 n a b) (eqB a b)) λa ih b hs=>by
 have hsl:=zdy a
 have hlen:=zo6 a.list
 have bad:a≠b->Ev (λn=>z1t n true b a) (eqB a b):=λh=>by rw [ztz,Ev.yz1 (by rfl),Ev.kz0,zzp.2 h]
 rw [yki,yz2.yz5,yz2.yz5]
 by_cases h1:a.kind=b.kind
 case neg=>rw [Ev.yz1 (by simpa using h1)];exact bad λh=>h1 (by rw [h])
 rw [Ev.kz1 (by simpa using h1)]
 by_cases h2:a.num.num=b.num.num∧a.num.den=b.num.den
 case neg=>rw [Ev.yz1 (by simp;omega)];exact bad λh=>h2 (by rw [h];exact ⟨rfl,rfl⟩)
 rw [Ev.kz1 (by simp [h2])]
 by_cases h3:a.truth=b.truth
 case neg=>rw [Ev.yz1 (by simpa using h3)];exact bad λh=>h3 (by rw [h])
 rw [Ev.kz1 (by simp [h3])]
 by_cases h4:a.str=b.str
 case neg=>rw [Ev.yz1 (by simpa using h4)];exact bad λh=>h4 (by rw [h])
 rw [Ev.kz1 (by simp [h4])]
 by_cases h5:a.list.length=b.list.length
 case neg=>rw [show ((a.list.length:Int) != (b.list.length:Int))=true by simp;omega];exact bad λh=>h5 (by rw [h])
 rw [show ((a.list.length:Int) != (b.list.length:Int))=false by simp;omega,ztz,Ev.kz1 (by rfl),yz2.yz5,yz2.yz5]
 have loop:∀k,k<=a.list.length->Ev (λn=>z8h n (k:Int) (a.list.length:Int) b a) (eqB (a.list.drop k) (b.list.drop k)) :=
  down (by
   rw [zux,Ev.kz1 (by simp),Ev.kz0,List.drop_length,h5,List.drop_length,zb1]) λk hk ihk=>by
   have hk2:k<b.list.length:=by omega
   have hx:=List.getElem_mem hk
   have hsx:=zsh hx
   rw [<-List.getElem_cons_drop (h:=hk),<-List.getElem_cons_drop (h:=hk2),yua]
   rw [zux,Ev.yz1 (by simpa using hk),Ev.kz2 (yz6 hk),Ev.kz2 (yz6 hk2),yz2.yz5,yz2.yz5,Ev.yz0 (ih _ hx _ (by omega))]
   cases hf:eqB a.list[k] b.list[k]
   ·rw [Ev.yz1 (by rfl),Ev.kz0];rfl
   ·rw [Ev.kz1 (by rfl),wrk (by omega),yz2.yz5,yz2.yz5,Bool.true_and]
    exact ihk
 refine (loop 0 (Nat.zero_le _)).to ?_
 rw [List.drop_zero,List.drop_zero]
 by_cases h6:a.list=b.list
 ·rw [z9e.2 h6,z9e.2 (vext h1 h2.1 h2.2 h3 h4 h6)]
 ·rw [zzp.2 h6,zzp.2 λh=>h6 (by rw [h])]
theorem ybs:∀a b:yz2,a.size<=8388608->Ev (λn=>z4a n a b) (eqB a b):=ye9 (P:=λa=>∀b:yz2,a.size<=8388608->Ev (λn=>z4a n a b) (eqB a b)) λa ih b hs=>by
 have hsl:=zdy a
 have hlen:=zo6 a.list
 have bad:a≠b->Ev (λn=>z1q n true b a) (eqB a b):=λh=>by rw [zvd,Ev.yz1 (by rfl),Ev.kz0,zzp.2 h]
 rw [yiw,yz2.yz5,yz2.yz5]
 by_cases h1:a.kind=b.kind
 case neg=>rw [Ev.yz1 (by simpa using h1)];exact bad λh=>h1 (by rw [h])
 rw [Ev.kz1 (by simpa using h1)]
 by_cases h2:a.num.num=b.num.num∧a.num.den=b.num.den
 case neg=>rw [Ev.yz1 (by simp;omega)];exact bad λh=>h2 (by rw [h];exact ⟨rfl,rfl⟩)
 rw [Ev.kz1 (by simp [h2])]
 by_cases h3:a.truth=b.truth
 case neg=>rw [Ev.yz1 (by simpa using h3)];exact bad λh=>h3 (by rw [h])
 rw [Ev.kz1 (by simp [h3])]
 by_cases h4:a.str=b.str
 case neg=>rw [Ev.yz1 (by simpa using h4)];exact bad λh=>h4 (by rw [h])
 rw [Ev.kz1 (by simp [h4])]
 by_cases h5:a.list.length=b.list.length
 case neg=>rw [show ((a.list.length:Int) != (b.list.length:Int))=true by simp;omega];exact bad λh=>h5 (by rw [h])
 rw [show ((a.list.length:Int) != (b.list.length:Int))=false by simp;omega,zvd,Ev.kz1 (by rfl),yz2.yz5,yz2.yz5]
 have loop:∀k,k<=a.list.length->Ev (λn=>z8k n (k:Int) b a) (eqB (a.list.drop k) (b.list.drop k)) :=
  down (by
   rw [zv0,Ev.kz1 (by simp),Ev.kz0,List.drop_length,h5,List.drop_length,zb1]) λk hk ihk=>by
   have hk2:k<b.list.length:=by omega
   have hx:=List.getElem_mem hk
   have hsx:=zsh hx
   rw [<-List.getElem_cons_drop (h:=hk),<-List.getElem_cons_drop (h:=hk2),yua]
   rw [zv0,Ev.yz1 (by simpa using hk),Ev.kz2 (yz6 hk),Ev.kz2 (yz6 hk2),yz2.yz5,yz2.yz5,Ev.yz0 (ih _ hx _ (by omega))]
   cases hf:eqB a.list[k] b.list[k]
   ·rw [Ev.yz1 (by rfl),Ev.kz0];rfl
   ·rw [Ev.kz1 (by rfl),wrk (by omega),yz2.yz5,yz2.yz5,Bool.true_and]
    exact ihk
 refine (loop 0 (Nat.zero_le _)).to ?_
 rw [List.drop_zero,List.drop_zero]
 by_cases h6:a.list=b.list
 ·rw [z9e.2 h6,z9e.2 (vext h1 h2.1 h2.2 h3 h4 h6)]
 ·rw [zzp.2 h6,zzp.2 λh=>h6 (by rw [h])]
theorem zbc {α:Type} {l:List α} {k:Nat} (h:k<l.length):l.take k++[l[k]]=l.take (k+1):=by
 rw [List.take_add_one,List.getElem?_eq_getElem h];rfl
theorem yto:∀v:yz2,v.size<=8388608->∀d:Int,∃b,Ev (λn=>zbz n v d) b:=ye9 λv ih hs d=>by
 have hsl:=zdy v
 have hlen:=zo6 v.list
 have loop:∀k,k<=v.list.length->∀d:Int,∃b,Ev (λn=>z6v n (k:Int) d v) b :=
  down (λd=>⟨false,by rw [zsu,Ev.kz1 (by simp),Ev.kz0]⟩) λk hk ihk d=>by
   have hx:=List.getElem_mem hk
   have hsx:=zsh hx
   obtain ⟨b,hb⟩:=ih _ hx (by omega) (IntKind.i64.wrap (d-1))
   obtain ⟨c,hc⟩:=ihk d
   refine ⟨if b then true else c,?_⟩
   rw [zsu,Ev.yz1 (by simpa using hk),Ev.kz2 (yz6 hk),yz2.yz5,Ev.yz0 hb,yz2.yz5,wrk (by omega)]
   cases b
   ·rw [Ev.kz1 (by rfl)];exact hc
   ·rw [Ev.yz1 (by rfl),Ev.kz0];rfl
 have l0:∀d b,∃c,Ev (λn=>z3t n d b v) c:=λd b=>by
  cases b
  ·obtain ⟨c,hc⟩:=loop 0 (Nat.zero_le _) d
   exact ⟨c,by rw [zsy,Ev.kz1 (by rfl),yz2.yz5];exact hc⟩
  ·exact ⟨true,by rw [zsy,Ev.yz1 (by rfl),Ev.kz0]⟩
 simp only [ycb,yz2.yz5,Ev.pif]
 split
 ·exact l0 _ _
 split
 ·exact l0 _ _
 ·exact l0 _ _
theorem yx3 {v:yz2} (hs:v.size<=8388608):∃b,Ev (λn=>zej n v) b:=by
 obtain ⟨b,hb⟩:=yto v hs 10
 cases b
 ·exact ⟨_,by rw [zxb,yz2.yz5,Ev.yz0 hb,Ev.kz1 (by rfl),Ev.yz0 (y84 v hs)];exact Ev.kz0.2 rfl⟩
 ·exact ⟨true,by rw [zxb,yz2.yz5,Ev.yz0 hb,Ev.yz1 (by rfl),Ev.kz0]⟩
end Go.Proofs.YtahcjggdcmgpkaaGreat
namespace Go.Proofs.YtahcjggdcmgpkaaGreat
open Go Go.Ab
set_option linter.unusedVariables false
set_option linter.unusedSimpArgs false
end Go.Proofs.YtahcjggdcmgpkaaGreat
namespace Go.Proofs.YtahcjggdcmgpkaaGreat
open Go Go.Ab
set_option linter.unusedVariables false
set_option linter.unusedSimpArgs false
theorem ycz {s:List UInt8} (hs:s.length<=8388608):Ev (λn=>zde n s) (zos s):=by
 have l3t:∀q,Ev (λn=>z13 n true s q) false:=λq=>by rw [zu3,Ev.yz1 (by rfl),Ev.kz0]
 have step:∀k (hk:k<s.length) (r:Bool),((if k=0 then isLet s[k] else zk4 s[k])=false->r=false)->((if k=0 then isLet s[k] else zk4 s[k])=true->Ev (λn=>z1u n s (k+1)) r)->Ev (λn=>z1u n s k) r:=λk hk r hf ht=>by
  have l3:∀b,(if k=0 then isLet s[k] else zk4 s[k]) = !b->(b=false->(zpn s k).2=1)->Ev (λn=>z13 n b s (k+(zpn s k).2)) r:=λb hb h1=>by
   cases b
   ·rw [zu3,Ev.kz1 (by rfl),h1 rfl];exact ht hb
   ·exact (l3t _).to (hf hb).symm
  rw [zvk,Ev.yz1 (by simpa using hk)]
  by_cases hlow:s[k].toNat<128
  ·have hd:=z03q hk hlow
   rw [hd] at l3
   rw [hd]
   have l2:∀b,b=isLet s[k]->Ev (λn=>z8v n (s[k].toNat:Int) (k:Int) b s (k+1)) r:=λb hb=>by
    subst hb
    rw [zu1]
    cases hl:isLet s[k]
    ·rw [Ev.yz1 (by rfl)]
     by_cases h0:k=0
     ·rw [Ev.yz1 (by simpa using h0)]
      exact l3 true (by rw [if_pos h0,hl];rfl) (by simp)
     ·rw [Ev.kz1 (by simpa using h0)]
      by_cases h45:s[k].toNat=45
      ·have:s[k]=45:=UInt8.toNat_inj.1 (by simpa using h45)
       rw [Ev.kz1 (by simp;omega)]
       exact l3 false (by rw [if_neg h0,zk4,this];rfl) (λ_=>rfl)
      ·have hne:(s[k]==45)=false:=by
        simp only [beq_eq_false_iff_ne];intro h;rw [h] at h45;exact h45 rfl
       rw [Ev.yz1 (by simp;omega)]
       by_cases c1:s[k].toNat<48
       ·rw [Ev.yz1 (by simp;omega)]
        refine l3 true ?_ (by simp)
        rw [if_neg h0,zk4,hl,hne,ynf];simp;omega
       ·rw [Ev.kz1 (by simp;omega)]
        refine l3 _ ?_ (λ_=>rfl)
        rw [if_neg h0,zk4,hl,hne,ynf]
        have e1:decide (48<=s[k].toNat)=true:=by rw [decide_eq_true_eq];omega
        have e3:decide ((s[k].toNat:Int)>57) = !decide (s[k].toNat<=57):=by
         by_cases c2:s[k].toNat<=57
         ·rw [show decide (s[k].toNat<=57)=true by rw [decide_eq_true_eq];exact c2]
          simp only [Bool.not_true,decide_eq_false_iff_not];omega
         ·rw [show decide (s[k].toNat<=57)=false by rw [decide_eq_false_iff_not];exact c2]
          simp only [Bool.not_false,decide_eq_true_eq];omega
        rw [e1,e3];simp
    ·rw [Ev.kz1 (by rfl)]
     refine l3 false ?_ (λ_=>rfl)
     split
     ·exact hl
     ·rw [zk4,hl];rfl
   simp only
   by_cases c1:97<=s[k].toNat
   ·rw [Ev.yz1 (by simp;omega)]
    exact l2 _ (by simp [isLet,c1];omega)
   ·rw [Ev.kz1 (by simp;omega)]
    exact l2 _ (by simp [isLet];omega)
  ·obtain ⟨h1,h2⟩:=z022 hk (by omega)
   have nl:isLet s[k]=false:=by simp [isLet];omega
   have nm:zk4 s[k]=false:=by
    rw [zk4,nl,ynf]
    have:(s[k]==45)=false:=by simp only [beq_eq_false_iff_ne];intro h;rw [h] at hlow;exact hlow (by decide)
    rw [this];simp;omega
   have bad:(if k=0 then isLet s[k] else zk4 s[k])=false:=by split <;> assumption
   rw [Ev.yz1 (by simp;omega),show decide (((zpn s k).1:Int)<=122)=false by simp;omega,zu1,Ev.yz1 (by rfl)]
   by_cases h0:k=0
   ·rw [Ev.yz1 (by simpa using h0)];exact (l3t _).to (hf bad).symm
   ·rw [Ev.kz1 (by simpa using h0),Ev.yz1 (by simp;omega),Ev.kz1 (by simp;omega),show decide (((zpn s k).1:Int)>57)=true by simp;omega]
    exact (l3t _).to (hf bad).symm
 have rest:∀k,k<=s.length->1<=k->Ev (λn=>z1u n s k) ((s.drop k).all zk4) :=
  down (Q:=λk=>1<=k->Ev (λn=>z1u n s k) ((s.drop k).all zk4)) (λ_=>by
   rw [zvk,Ev.kz1 (by simp),Ev.kz0];simp) λk hk ih h1=>by
   rw [<-List.getElem_cons_drop (h:=hk),List.all_cons]
   refine step k hk _ (λh => ?_) λh => ?_
   ·rw [if_neg (by omega)] at h;rw [h];rfl
   ·rw [if_neg (by omega)] at h;rw [h];exact ih (by omega)
 rw [yi3]
 cases s with
 |nil=>rw [Ev.yz1 (by rfl),zw0,Ev.yz1 (by rfl),Ev.kz0];rfl
 |cons c t =>
  rw [Ev.kz1 (by simp;omega),zw0]
  by_cases h40:(c::t).length<=40
  · rw [Ev.kz1 (by simp at h40 ⊢;omega)]
    refine step 0 (by simp) _ (λh => ?_) λh => ?_
    · rw [if_pos rfl] at h;simp only [List.getElem_cons_zero] at h;simp [zos,h]
    · rw [if_pos rfl] at h;simp only [List.getElem_cons_zero] at h
      refine (rest 1 (by simp) (Nat.le_refl _)).to ?_
      simp [zos,h];intro _;simpa using h40
  · rw [Ev.yz1 (by simp at h40 ⊢;omega),Ev.kz0]
    simp [zos];intro _ _;simpa using h40
theorem yoa {c:UInt8}:Ev (λn=>zcg n (c.toNat:Int)) (isLet c):=by
 rw [y9s]
 simp only [Ev.pif,Ev.kz0,isLet,decide_eq_true_eq]
 split
 ·have:97<=c.toNat:=by omega
  simp [this];omega
 ·have:¬97<=c.toNat:=by omega
  simp [this]
theorem yvn {c:UInt8}:Ev (λn=>zdz n (c.toNat:Int)) (ynf c):=by
 rw [yc1]
 simp only [Ev.pif,Ev.kz0,ynf,decide_eq_true_eq]
 split
 ·have:48<=c.toNat:=by omega
  simp [this];omega
 ·have:¬48<=c.toNat:=by omega
  simp [this]
theorem z07r {c:UInt8}:(((c.toNat:Nat):Int) != 45) = !(c==45):=by
 cases h:c==45 with
 |true=>have:c=45:=by simpa using h
        subst this;rfl
 |false =>
  have:c.toNat≠45:=λhh=>by
   have:c=45:=UInt8.toNat_inj.1 (by simpa using hh)
   subst this;cases h
  simp;omega
theorem ygc {s:List UInt8} (hs:s.length<=8388608):Ev (λn=>zdp n s) (zos s):=by
 have bad:∀k:Int,Ev (λn=>z1n n s k true) false:=λk=>by rw [zvi,Ev.yz1 (by rfl),Ev.kz0]
 have step:∀k (hk:k<s.length) (r:Bool),((if k=0 then isLet s[k] else zk4 s[k])=false->r=false)->((if k=0 then isLet s[k] else zk4 s[k])=true->Ev (λn=>z11 n ((k+1:Nat):Int) s) r)->Ev (λn=>z11 n (k:Int) s) r:=λk hk r hf ht=>by
  have l1:∀b,(if k=0 then isLet s[k] else zk4 s[k]) = !b->Ev (λn=>z1n n s (k:Int) b) r:=λb hb=>by
   cases b
   ·rw [zvi,Ev.kz1 (by rfl),wrk (by omega)];exact ht hb
   ·exact (bad _).to (hf hb).symm
  rw [zuz,Ev.yz1 (by simpa using hk),Ev.kz2 (yz6 hk),Ev.yz0 yoa]
  cases hl:isLet s[k]
  ·rw [Ev.yz1 (by rfl)]
   by_cases h0:k=0
   ·rw [Ev.yz1 (by simpa using h0)];exact l1 true (by rw [if_pos h0,hl];rfl)
   ·rw [Ev.kz1 (by simpa using h0),Ev.kz2 (yz6 hk),z07r]
    cases h45:s[k]==45
    ·rw [Ev.yz1 (by rfl),Ev.kz2 (yz6 hk),Ev.yz0 yvn]
     exact l1 _ (by rw [if_neg h0,zk4,hl,h45];simp)
    ·rw [Ev.kz1 (by rfl)];exact l1 false (by rw [if_neg h0,zk4,hl,h45];rfl)
  ·rw [Ev.kz1 (by rfl)]
   exact l1 false (by split;exact hl;rw [zk4,hl];rfl)
 have fin:∀r:Bool,r=(decide (1<=s.length)&&decide (s.length<=40))->Ev (λn=>z11 n (s.length:Int) s) r:=λr hr=>by
  rw [zuz,Ev.kz1 (by simp),hr]
  by_cases h1:1<=s.length
  ·rw [Ev.yz1 (by simp;omega),Ev.kz0];simp [h1];omega
  ·rw [Ev.kz1 (by simp;omega),Ev.kz0];simp [h1]
 have rest:∀k,k<=s.length->1<=k->Ev (λn=>z11 n (k:Int) s) ((s.drop k).all zk4&&decide (s.length<=40)) :=
  down (Q:=λk=>1<=k->Ev (λn=>z11 n (k:Int) s) ((s.drop k).all zk4&&decide (s.length<=40))) (λh1=>by
   refine fin _ ?_;simp [h1]) λk hk ih h1=>by
   rw [<-List.getElem_cons_drop (h:=hk),List.all_cons]
   refine step k hk _ (λh => ?_) λh => ?_
   ·rw [if_neg (by omega)] at h;rw [h];rfl
   ·rw [if_neg (by omega)] at h;rw [h];exact ih (by omega)
 rw [yi2]
 cases s with
 |nil=>exact fin _ rfl
 |cons c t =>
  refine step 0 (by simp) _ (λh => ?_) λh => ?_
  · rw [if_pos rfl] at h;simp only [List.getElem_cons_zero] at h;simp [zos,h]
  · rw [if_pos rfl] at h;simp only [List.getElem_cons_zero] at h
    refine (rest 1 (by simp) (Nat.le_refl _)).to ?_
    simp [zos,h]
def zwt (s:List UInt8):Bool:=zos s&&(!(s==[116,114,117,101]) && !(s==[102,97,108,115,101]))
theorem yxt {s:List UInt8} (hs:s.length<=8388608):Ev (λn=>zg0 n s) (zwt s):=by
 rw [yln,Ev.yz0 (ycz hs)]
 unfold zwt
 cases zos s <;> cases h:(s==[116,114,117,101]) <;> simp [Ev.pif,Ev.kz0]
theorem yv6 {s:List UInt8} (hs:s.length<=8388608):Ev (λn=>ze3 n s) (zwt s):=by
 rw [yer,Ev.yz0 (ygc hs)]
 unfold zwt
 cases zos s <;> cases h:(s==[116,114,117,101]) <;> simp [Ev.pif,Ev.kz0]
end Go.Proofs.YtahcjggdcmgpkaaGreat
namespace Go.Proofs.YtahcjggdcmgpkaaGreat
open Go Go.Ab
set_option linter.unusedVariables false
set_option linter.unusedSimpArgs false
theorem zyx {P:zz1->Prop} (h:∀e:zz1,(∀x,x∈e.args->P x)->P e) (e:zz1):P e:=h e λx hx=>zyx h x
termination_by e
decreasing_by exact zz1.y3h hx
mutual
def z9a:zz1->Nat
 |⟨_,_,_,l⟩=>1+zzu l
def zzu:List zz1->Nat
 |[]=>0
 |x::l=>z9a x+zzu l
end
mutual
def zhg:zz1->Nat
 |⟨_,_,_,l⟩=>max 1 (zl2 l)
def zl2:List zz1->Nat
 |[]=>0
 |x::l=>max (1+zhg x) (zl2 l)
end
theorem zeh (e:zz1):z9a e=1+zzu e.args:=by cases e;rw [z9a]
theorem y5g (e:zz1):zhg e=max 1 (zl2 e.args):=by cases e;rw [zhg]
theorem y08 {l:List zz1} {x:zz1} (h:x∈l):x.size<=(l.map zz1.size).sum:=by
 induction l with
 |nil=>cases h
 |cons y l ih =>
  rcases List.mem_cons.1 h with rfl|h
  · simp
  · have:=ih h;simp;omega
theorem zbq (e:zz1):(e.args.map zz1.size).sum+e.name.length+e.value.size+4<=e.size:=by rw [zz1.size_eq];omega
theorem zoj {e x:zz1} (h:x∈e.args):x.size<=e.size:=by have:=y08 h;have:=zbq e;omega
theorem zcd (l:List zz1):l.length<=(l.map zz1.size).sum:=by
 induction l with
 |nil=>simp
 |cons x l ih=>have:=zbq x;simp;omega
theorem zva:∀e:zz1,z9a e<=e.size:=zyx λe ih=>by
 have:∀l:List zz1,(∀x,x∈l->x∈e.args)->zzu l<=(l.map zz1.size).sum:=λl=>by
  induction l with
  |nil=>intro _;simp [zzu]
  |cons x l ihl =>
   intro hl
   have:=ih x (hl x List.mem_cons_self)
   have:=ihl λy hy=>hl y (List.mem_cons_of_mem _ hy)
   simp [zzu];omega
 have:=this e.args λ_ h=>h
 have:=zbq e
 rw [zeh];omega
theorem ywj:∀e:zz1,zhg e<=z9a e:=zyx λe ih=>by
 have:∀l:List zz1,(∀x,x∈l->x∈e.args)->zl2 l<=1+zzu l:=λl=>by
  induction l with
  |nil=>intro _;simp [zzu,zl2]
  |cons x l ihl =>
   intro hl
   have:=ih x (hl x List.mem_cons_self)
   have:=ihl λy hy=>hl y (List.mem_cons_of_mem _ hy)
   simp [zzu,zl2];omega
 have:=this e.args λ_ h=>h
 rw [zeh,y5g];omega
theorem yey (l:List zz1):zzu l<=(l.map zz1.size).sum:=by
 induction l with
 |nil=>simp [zzu]
 |cons x l ih=>have:=zva x;simp [zzu];omega
theorem yqo:∀e:zz1,e.size<=8388608->Ev (λn=>zag n e) ((z9a e:Int),(zhg e:Int)):=zyx λe ih hs=>by
 have hsl:=zbq e
 have hlen:=zcd e.args
 have loop:∀k,k<=e.args.length->∀d p:Nat,p+zzu (e.args.drop k)<=8388609->d<=8388609->Ev (λn=>z4l n (k:Int) (d:Int) (p:Int) e.args (e.args.length:Int)) (((p+zzu (e.args.drop k):Nat):Int),((max d (zl2 (e.args.drop k)):Nat):Int)) :=
  down (λd p hp hd=>by
   rw [zr3,Ev.kz1 (by simp),Ev.kz0]
   simp [zzu,zl2]) λk hk ihk d p hp hd=>by
   have hx:=List.getElem_mem hk
   have hsx:=zoj hx
   rw [<-List.getElem_cons_drop (h:=hk)] at hp ⊢
   simp only [zzu,zl2] at hp ⊢
   have hpl:=zva e.args[k]
   have hdl:=ywj e.args[k]
   rw [zr3,Ev.yz1 (by simpa using hk),Ev.kz2 (yz6 hk),zz1.yz5,Ev.yz0 (ih _ hx (by omega)),wI (x:=_+1) (by omega),wI (x:=(zhg _:Int)+1) (by omega),wI (x:=(p:Int)+_) (by omega)]
   have e1:(k:Int)+1=((k+1:Nat):Int):=by omega
   have e2:(zhg e.args[k]:Int)+1=((1+zhg e.args[k]:Nat):Int):=by omega
   have e3:(p:Int)+(z9a e.args[k]:Int)=((p+z9a e.args[k]:Nat):Int):=by omega
   rw [e1,e2,e3,yb8]
   refine (ihk (max d (1+zhg e.args[k])) (p+z9a e.args[k]) (by omega) (by omega)).to ?_
   congr 2 <;> omega
 rw [y9m]
 have hv:=yey e.args
 have:=loop 0 (Nat.zero_le _) 1 1 (by simp;omega) (by omega)
 refine this.to ?_
 rw [zeh,y5g,List.drop_zero]
theorem y8r:∀e:zz1,e.size<=8388608->Ev (λn=>z9f n e) (z9a e:Int):=zyx λe ih hs=>by
 have hsl:=zbq e
 have hlen:=zcd e.args
 rw [yf8,zz1.yz5,zeh]
 have loop:∀k,k<=e.args.length->∀p:Nat,p+zzu (e.args.drop k)<=8388609->Ev (λn=>z6w n (k:Int) (p:Int) e) ((p+zzu (e.args.drop k):Nat):Int) :=
  down (λp hp=>by
   rw [zs6,Ev.kz1 (by simp),Ev.kz0]
   simp [zzu]) λk hk ihk p hp=>by
   have hx:=List.getElem_mem hk
   have hsx:=zoj hx
   rw [<-List.getElem_cons_drop (h:=hk)] at hp ⊢
   simp only [zzu] at hp ⊢
   have hpl:=zva e.args[k]
   rw [zs6,Ev.yz1 (by simpa using hk),Ev.kz2 (yz6 hk),zz1.yz5,Ev.yz0 (ih _ hx (by omega)),wI (x:=_+1) (by omega),wI (x:=(p:Int)+_) (by omega)]
   have e1:(k:Int)+1=((k+1:Nat):Int):=by omega
   have e3:(p:Int)+(z9a e.args[k]:Int)=((p+z9a e.args[k]:Nat):Int):=by omega
   rw [e1,e3,zz1.yz5]
   refine (ihk (p+z9a e.args[k]) (by omega)).to ?_
   congr 1;omega
 have hv:=yey e.args
 exact loop 0 (Nat.zero_le _) 1 (by simp;omega)
theorem yxu:∀e:zz1,e.size<=8388608->Ev (λn=>zdf n e) (zhg e:Int):=zyx λe ih hs=>by
 have hsl:=zbq e
 have hlen:=zcd e.args
 rw [yh6,zz1.yz5,y5g]
 have loop:∀k,k<=e.args.length->∀p:Nat,p<=8388609->Ev (λn=>z7s n (k:Int) (p:Int) e) ((max p (zl2 (e.args.drop k)):Nat):Int) :=
  down (λp hp=>by
   rw [zvy,Ev.kz1 (by simp),Ev.kz0]
   simp [zl2]) λk hk ihk p hp=>by
   have hx:=List.getElem_mem hk
   have hsx:=zoj hx
   rw [<-List.getElem_cons_drop (h:=hk)]
   simp only [zl2]
   have hpl:=zva e.args[k]
   have hdl:=ywj e.args[k]
   rw [zvy,Ev.yz1 (by simpa using hk),Ev.kz2 (yz6 hk),zz1.yz5,Ev.yz0 (ih _ hx (by omega)),wI (x:=_+1) (by omega),wI (x:=1+_) (by omega)]
   have e1:(k:Int)+1=((k+1:Nat):Int):=by omega
   have e3:1+(zhg e.args[k]:Int)=((1+zhg e.args[k]:Nat):Int):=by omega
   rw [e1,e3,zz1.yz5,yb8]
   refine (ihk (max p (1+zhg e.args[k])) (by omega)).to ?_
   congr 1;omega
 exact loop 0 (Nat.zero_le _) 1 (by omega)
def zbv (op:Int):Int :=
 if op=1∨op=2 then 0 else if (3<=op∧op<=10)∨op=13∨op=14∨op=17 then 2 else if op=11∨op=15∨op=16 then 1 else if op=12 then 3 else if op=18 then -1 else -2
theorem ops (op:Int):op=1∨op=2∨op=3∨op=4∨op=5∨op=6∨op=7∨op=8∨op=9∨op=10∨op=11∨op=12∨op=13∨op=14∨op=15∨op=16∨op=17∨op=18∨(op<1∨18<op):=by omega
theorem yyf {op:Int}:Ev (λn=>zg3 n op) (zbv op):=by
 rcases ops op with rfl|rfl|rfl|rfl|rfl|rfl|rfl|rfl|rfl|rfl|rfl|rfl|rfl|rfl|rfl|rfl|rfl|rfl|h
 case inr.inr.inr.inr.inr.inr.inr.inr.inr.inr.inr.inr.inr.inr.inr.inr.inr.inr =>
  have e:zbv op = -2:=by unfold zbv;rw [if_neg (by omega),if_neg (by omega),if_neg (by omega),if_neg (by omega),if_neg (by omega)]
  rw [e]
  have n (j:Int) (h1:1<=j) (h2:j<=18):(op==j)=false:=by simp;omega
  simp [y1e,zvg,zvf,zvt,ztx,zvq,zvc,Ev.pif,Ev.kz0,n]
 all_goals simp [y1e,zvg,zvf,zvt,ztx,zvq,zvc,Ev.pif,Ev.kz0,zbv]
theorem yxn {op:Int}:Ev (λn=>zg7 n op) (zbv op):=by
 rcases ops op with rfl|rfl|rfl|rfl|rfl|rfl|rfl|rfl|rfl|rfl|rfl|rfl|rfl|rfl|rfl|rfl|rfl|rfl|h
 case inr.inr.inr.inr.inr.inr.inr.inr.inr.inr.inr.inr.inr.inr.inr.inr.inr.inr =>
  have e:zbv op = -2:=by unfold zbv;rw [if_neg (by omega),if_neg (by omega),if_neg (by omega),if_neg (by omega),if_neg (by omega)]
  rw [e]
  have n (j:Int) (h1:1<=j) (h2:j<=18):(op==j)=false:=by simp;omega
  rw [y0y,Ev.kz1 (n 1 (by omega) (by omega)),n 2 (by omega) (by omega),zvu,Ev.kz1 (by rfl)]
  have l1:Ev (λm=>z0i m op false) (-2):=by simp [zvp,zvw,Ev.pif,Ev.kz0,n]
  by_cases h3:op>=3
  ·rw [Ev.yz1 (by simpa using h3),Ev.kz1 (by simp;omega),Ev.kz1 (n 13 (by omega) (by omega)),Ev.kz1 (n 14 (by omega) (by omega)),n 17 (by omega) (by omega)];exact l1
  ·rw [Ev.kz1 (by simpa using h3),Ev.kz1 (n 13 (by omega) (by omega)),Ev.kz1 (n 14 (by omega) (by omega)),n 17 (by omega) (by omega)];exact l1
 all_goals simp [y0y,zvu,zvp,zvw,Ev.pif,Ev.kz0,zbv]
noncomputable def ynz (op:Int) (v:yz2) (nm:List UInt8):Bool :=
 if op=1 then y2u v==0&&(v.kind != 4&&nm.isEmpty) else if op=2 then zwt nm&&eqB v v0 else nm.isEmpty&&eqB v v0
def yp5 (op:Int) (k:Nat):Bool:=zbv op != -2&&(decide (zbv op<0)||(k:Int)==zbv op)
mutual
noncomputable def zon:zz1->Bool
 |⟨op,v,nm,l⟩=>yp5 op l.length&&(ynz op v nm&&zea l)
noncomputable def zea:List zz1->Bool
 |[]=>true
 |x::l=>zon x&&zea l
end
theorem yf1 (e:zz1):zon e=(yp5 e.op e.args.length&&(ynz e.op e.value e.name&&zea e.args)):=by cases e;rw [zon]
theorem yxb (l:List zz1):zea l=l.all zon:=by
 induction l with
 |nil=>rfl
 |cons x l ih=>simp [zea,ih]
noncomputable def z3n (e:zz1):Int:=if 100<z9a e∨12<zhg e then 4 else if zon e then 0 else 8
theorem z02f {e:zz1} (h:e.wf):e.value.wf:=by rw [zz1.z5t] at h;exact h.2.1
theorem z03d {e:zz1} (h:e.wf):∀x∈e.args,x.wf:=by rw [zz1.z5t] at h;exact h.2.2.2
theorem y8e (s:List UInt8):(!(s==[])) = !s.isEmpty:=by cases s <;> rfl
theorem z02t:∀e:zz1,e.wf->e.size<=8388608->Ev (λn=>zfe n e) (zon e):=zyx λe ih hw hs=>by
 have hsl:=zbq e
 have hlen:=zcd e.args
 have idx:∀k,k<=e.args.length->∃i:Int,Ev (λn=>zzc n (k:Int) e.args (e.args.length:Int)) i∧decide (i>=0) = !zea (e.args.drop k) :=
  down ⟨-1,by rw [z1a,Ev.kz1 (by simp),Ev.kz0],by simp [zea]⟩ λk hk ihk=>by
   have hx:=List.getElem_mem hk
   have hsx:=zoj hx
   have hf1:Ev (λn=>ze2 n e.args[k]) (!zon e.args[k]):=by
    rw [yge,zz1.yz5,Ev.yz0 (ih _ hx (z03d hw _ hx) (by omega)),Ev.kz0]
   obtain ⟨i,h1,h2⟩:=ihk
   rw [<-List.getElem_cons_drop (h:=hk),zea]
   cases hf:zon e.args[k]
   ·refine ⟨k,?_,by simp⟩
    rw [z1a,Ev.yz1 (by simpa using hk),Ev.kz2 (yz6 hk),zz1.yz5,Ev.yz0 hf1,Ev.yz1 (by rw [hf];rfl),Ev.kz0]
   ·refine ⟨i,?_,by rw [h2];rfl⟩
    rw [z1a,Ev.yz1 (by simpa using hk),Ev.kz2 (yz6 hk),zz1.yz5,Ev.yz0 hf1,Ev.kz1 (by rw [hf];rfl),wrk (by omega)]
    exact h1
 have l4:Ev (λn=>z7g n e) (zea e.args):=by
  obtain ⟨i,h1,h2⟩:=idx 0 (Nat.zero_le _)
  have hi:Ev (λn=>kzj n e.args) i:=by rw [zgl];exact h1
  have hc:Ev (λn=>kzg n e.args) (!zea e.args):=by
   rw [zew,Ev.yz0 hi,Ev.kz0,h2];rfl
  rw [ya2,Ev.yz0 hc,Ev.kz0,Bool.not_not]
 have l1:∀b,Ev (λn=>z7f n b e) (!b&&zea e.args):=λb=>by
  rw [yb4];cases b
  ·rw [Ev.kz1 (by rfl),zz1.yz5];exact l4
  ·rw [Ev.yz1 (by rfl),Ev.kz0];rfl
 have l2:∀b,Ev (λn=>zal n b e) (!b&&zea e.args):=λb=>by
  rw [y9t];cases b
  ·rw [Ev.kz1 (by rfl),zz1.yz5];exact l4
  ·rw [Ev.yz1 (by rfl),Ev.kz0];rfl
 have l3:∀b,Ev (λn=>zah n b e) (!b&&zea e.args):=λb=>by
  rw [yao];cases b
  ·rw [Ev.kz1 (by rfl),zz1.yz5];exact l4
  ·rw [Ev.yz1 (by rfl),Ev.kz0];rfl
 have l0:∀b,Ev (λn=>z7i n b e) (!b&&(ynz e.op e.value e.name&&zea e.args)):=λb=>by
  rw [yb5];cases b
  case true=>rw [Ev.yz1 (by rfl),Ev.kz0];rfl
  rw [Ev.kz1 (by rfl)]
  have hsame:Ev (λn=>z47 n e.value (yz2.mk 0 (kz6.mk 0 0) false [] [])) (eqB e.value v0):=yg6 e.value v0 (by omega)
  by_cases h1:e.op=1
  ·rw [Ev.yz1 (by simpa using h1),yz2.yz5,Ev.yz0 (yur (z02f hw) (by omega)),zz1.yz5,y8e]
   simp only [ynz,if_pos h1]
   by_cases hc:y2u e.value=0
   ·rw [Ev.kz1 (by simpa using hc)]
    by_cases hk:e.value.kind=4
    ·rw [Ev.yz1 (by simpa using hk)]
     refine (l1 true).to ?_;simp [hc,hk]
    ·rw [Ev.kz1 (by simpa using hk)]
     have hk':(e.value.kind != 4)=true:=by simpa using hk
     refine (l1 _).to ?_;simp [hc,hk']
   ·rw [Ev.yz1 (by simpa using hc)]
    refine (l1 true).to ?_;simp [hc]
  rw [Ev.kz1 (by simpa using h1)]
  by_cases h2:e.op=2
  ·rw [Ev.yz1 (by simpa using h2),Ev.yz0 (yxt (by omega)),yz2.yz5,zz1.yz5]
   simp only [ynz,if_neg h1,if_pos h2]
   cases hn:zwt e.name
   ·rw [Ev.yz1 (by rfl)]
    exact (l2 true).to (by simp)
   ·rw [Ev.kz1 (by rfl),Ev.yz0 hsame]
    exact (l2 _).to (by simp)
  ·rw [Ev.kz1 (by simpa using h2),y8e,yz2.yz5,zz1.yz5]
   simp only [ynz,if_neg h1,if_neg h2]
   cases hn:e.name.isEmpty
   ·rw [Ev.yz1 (by rfl)]
    exact (l3 true).to (by simp)
   ·rw [Ev.kz1 (by rfl),Ev.yz0 hsame]
    exact (l3 _).to (by simp)
 rw [yqj,Ev.yz0 yyf,yf1,zz1.yz5]
 unfold yp5
 by_cases c1:zbv e.op = -2
 ·rw [Ev.yz1 (by simpa using c1)]
  exact (l0 true).to (by simp [c1])
 rw [Ev.kz1 (by simpa using c1)]
 by_cases c2:zbv e.op>=0
 ·rw [Ev.yz1 (by simpa using c2)]
  refine (l0 _).to ?_
  rw [show decide (zbv e.op<0)=false by simpa using c2,show (zbv e.op != -2)=true by simpa using c1]
  simp only [bne,Bool.not_not,Bool.true_and,Bool.false_or]
 ·rw [Ev.kz1 (by simpa using c2)]
  refine (l0 _).to ?_
  rw [show decide (zbv e.op<0)=true by simp;omega,show (zbv e.op != -2)=true by simpa using c1]
  simp
theorem yyi:∀e:zz1,e.size<=8388608->Ev (λn=>zd4 n e) (zon e):=zyx λe ih hs=>by
 have hsl:=zbq e
 have hlen:=zcd e.args
 have loop:∀k,k<=e.args.length->Ev (λn=>z89 n (k:Int) e) (zea (e.args.drop k)) :=
  down (by rw [zuc,Ev.kz1 (by simp),Ev.kz0];simp [zea]) λk hk ihk=>by
   have hx:=List.getElem_mem hk
   have hsx:=zoj hx
   rw [<-List.getElem_cons_drop (h:=hk),zea]
   rw [zuc,Ev.yz1 (by simpa using hk),Ev.kz2 (yz6 hk),zz1.yz5,Ev.yz0 (ih _ hx (by omega))]
   cases hf:zon e.args[k]
   ·rw [Ev.yz1 (by rfl),Ev.kz0];rfl
   ·rw [Ev.kz1 (by rfl),wrk (by omega),zz1.yz5,Bool.true_and];exact ihk
 have l2:∀b,Ev (λn=>z1o n b e) (!b&&zea e.args):=λb=>by
  rw [y69];cases b
  ·rw [Ev.kz1 (by rfl),zz1.yz5];exact loop 0 (Nat.zero_le _)
  ·rw [Ev.yz1 (by rfl),Ev.kz0];rfl
 have hgn:decide ((e.name.length:Int)>0) = !e.name.isEmpty:=by cases e.name <;> simp
 have l1:∀b,Ev (λn=>z15 n b e) (!b&&((if e.op=2 then zwt e.name else e.name.isEmpty)&&zea e.args)):=λb=>by
  rw [y5k];cases b
  case true=>rw [Ev.yz1 (by rfl),Ev.kz0];rfl
  rw [Ev.kz1 (by rfl),zz1.yz5,hgn]
  by_cases h2:e.op=2
  ·rw [Ev.yz1 (by simpa using h2),if_pos h2,Ev.yz0 (yv6 (by omega))]
   cases hn:zwt e.name
   ·rw [Ev.yz1 (by rfl)];exact (l2 true).to (by simp)
   ·rw [Ev.kz1 (by rfl),Ev.kz1 (by simpa using h2)];exact (l2 false).to (by simp)
  ·rw [Ev.kz1 (by simpa using h2),Ev.yz1 (by simpa using h2),if_neg h2];exact (l2 _).to (by simp)
 have l0:∀b,Ev (λn=>z5c n b e) (!b&&(ynz e.op e.value e.name&&zea e.args)):=λb=>by
  rw [y70];cases b
  case true=>rw [Ev.yz1 (by rfl),Ev.kz0];rfl
  rw [Ev.kz1 (by rfl),yz2.yz5,zz1.yz5]
  have hsame:Ev (λn=>z4a n e.value (yz2.mk 0 (kz6.mk 0 0) false [] [])) (eqB e.value v0):=ybs e.value v0 (by omega)
  by_cases h1:e.op=1
  ·rw [Ev.yz1 (by simpa using h1),Ev.yz0 (yw2 (by omega))]
   simp only [ynz,if_pos h1]
   by_cases hc:y2u e.value=0
   ·rw [Ev.kz1 (by simpa using hc)]
    by_cases hk:e.value.kind=4
    ·rw [Ev.yz1 (by simpa using hk)]
     refine (l1 true).to ?_;simp [hc,hk]
    ·rw [Ev.kz1 (by simpa using hk),Ev.kz1 (by simpa using h1)]
     have hk':(e.value.kind != 4)=true:=by simpa using hk
     refine (l1 _).to ?_;simp [hc,hk',h1]
   ·rw [Ev.yz1 (by simpa using hc)]
    refine (l1 true).to ?_;simp [hc]
  ·rw [Ev.kz1 (by simpa using h1),Ev.yz1 (by simpa using h1),Ev.yz0 hsame]
   refine (l1 _).to ?_
   simp only [ynz,if_neg h1]
   split
   ·cases eqB e.value v0 <;> cases zwt e.name <;> simp
   ·cases eqB e.value v0 <;> cases e.name.isEmpty <;> simp
 rw [yly,Ev.yz0 yxn,yf1,zz1.yz5]
 unfold yp5
 by_cases c1:zbv e.op = -2
 ·rw [Ev.yz1 (by simpa using c1)]
  exact (l0 true).to (by simp [c1])
 rw [Ev.kz1 (by simpa using c1)]
 by_cases c2:zbv e.op>=0
 ·rw [Ev.yz1 (by simpa using c2)]
  refine (l0 _).to ?_
  rw [show decide (zbv e.op<0)=false by simpa using c2,show (zbv e.op != -2)=true by simpa using c1]
  simp only [bne,Bool.not_not,Bool.true_and,Bool.false_or]
 ·rw [Ev.kz1 (by simpa using c2)]
  refine (l0 _).to ?_
  rw [show decide (zbv e.op<0)=true by simp;omega,show (zbv e.op != -2)=true by simpa using c1]
  simp
theorem zwm {e:zz1} (hw:e.wf) (hs:e.size<=8388608):Ev (λn=>z48 n e) (z3n e):=by
 have l0:∀b,Ev (λn=>z80 n b e) (if b then 4 else if zon e then 0 else 8):=λb=>by
  rw [y74]
  cases b
  ·rw [Ev.kz1 (by rfl),zz1.yz5,Ev.yz0 (z02t e hw hs)]
   cases zon e
   ·rw [Ev.yz1 (by rfl),Ev.kz0];rfl
   ·rw [Ev.kz1 (by rfl),Ev.kz0];rfl
  ·rw [Ev.yz1 (by rfl),Ev.kz0];rfl
 rw [yhk,zz1.yz5,Ev.yz0 (yqo e hs)]
 unfold z3n
 simp only [Ev.pif]
 by_cases h1:100<z9a e
 ·rw [if_pos (by simp;omega),if_pos (.inl h1)];exact l0 true
 ·rw [if_neg (by simp;omega)]
  by_cases h2:12<zhg e
  ·rw [if_pos (.inr h2),show decide ((zhg e:Int)>12)=true by simp;omega];exact l0 true
  ·rw [if_neg (by omega),show decide ((zhg e:Int)>12)=false by simp;omega];exact l0 false
theorem zl4 {e:zz1} (hs:e.size<=8388608):Ev (λn=>z2o n e) (z3n e):=by
 have l0:∀b,Ev (λn=>z6k n b e) (if b then 4 else if zon e then 0 else 8):=λb=>by
  rw [y3j]
  cases b
  ·rw [Ev.kz1 (by rfl),zz1.yz5,Ev.yz0 (yyi e hs)]
   cases zon e
   ·rw [Ev.yz1 (by rfl),Ev.kz0];rfl
   ·rw [Ev.kz1 (by rfl),Ev.kz0];rfl
  ·rw [Ev.yz1 (by rfl),Ev.kz0];rfl
 rw [yf7,zz1.yz5,Ev.yz0 (y8r e hs)]
 unfold z3n
 by_cases h1:100<z9a e
 ·rw [Ev.yz1 (by simp;omega),if_pos (.inl h1)];exact l0 true
 ·rw [Ev.kz1 (by simp;omega),Ev.yz0 (yxu e hs)]
  by_cases h2:12<zhg e
  ·rw [if_pos (.inr h2),show decide ((zhg e:Int)>12)=true by simp;omega];exact l0 true
  ·rw [if_neg (by omega),show decide ((zhg e:Int)>12)=false by simp;omega];exact l0 false
theorem zyg {e:zz1} (h:z3n e=0):zon e=true∧z9a e<=100∧zhg e<=12:=by
 unfold z3n at h
 split at h
 ·cases h
 ·split at h
  ·exact ⟨‹_›,by omega,by omega⟩
  ·cases h
theorem ywd:∀e:zz1,e.size<=8388608->∀d:Int,∃b,Ev (λn=>zbt n e d) b:=zyx λe ih hs d=>by
 have hsl:=zbq e
 have hlen:=zcd e.args
 have loop:∀k,k<=e.args.length->∀d:Int,∃b,Ev (λn=>z63 n (k:Int) d e) b :=
  down (λd=>⟨false,by rw [zth,Ev.kz1 (by simp),Ev.kz0]⟩) λk hk ihk d=>by
   have hx:=List.getElem_mem hk
   have hsx:=zoj hx
   obtain ⟨b,hb⟩:=ih _ hx (by omega) (IntKind.i64.wrap (d-1))
   obtain ⟨c,hc⟩:=ihk d
   refine ⟨if b then true else c,?_⟩
   rw [zth,Ev.yz1 (by simpa using hk),Ev.kz2 (yz6 hk),zz1.yz5,Ev.yz0 hb,zz1.yz5,wrk (by omega)]
   cases b
   ·rw [Ev.kz1 (by rfl)];exact hc
   ·rw [Ev.yz1 (by rfl),Ev.kz0];rfl
 have l0:∀d b,∃c,Ev (λn=>z2f n d b e) c:=λd b=>by
  cases b
  ·obtain ⟨c,hc⟩:=loop 0 (Nat.zero_le _) d
   exact ⟨c,by rw [zsg,Ev.kz1 (by rfl),zz1.yz5];exact hc⟩
  ·exact ⟨true,by rw [zsg,Ev.yz1 (by rfl),Ev.kz0]⟩
 obtain ⟨g,hg⟩:=yx3 (v:=e.value) (by omega)
 simp only [yfo,zz1.yz5,yz2.yz5,Ev.pif,Ev.yz0 hg]
 split
 ·exact l0 _ _
 split
 ·exact l0 _ _
 split
 ·exact l0 _ _
 ·exact l0 _ _
theorem zro {e:zz1} (hs:e.size<=8388608):∃b,Ev (λn=>z69 n e) b:=by
 obtain ⟨b,hb⟩:=ywd e hs 16
 cases b
 ·exact ⟨_,by rw [zyi,zz1.yz5,Ev.yz0 hb,Ev.kz1 (by rfl),Ev.yz0 (y8r e hs)];exact Ev.kz0.2 rfl⟩
 ·exact ⟨true,by rw [zyi,zz1.yz5,Ev.yz0 hb,Ev.yz1 (by rfl),Ev.kz0]⟩
end Go.Proofs.YtahcjggdcmgpkaaGreat
namespace Go.Proofs.YtahcjggdcmgpkaaGreat
open Go Go.Ab
set_option linter.unusedVariables false
set_option linter.unusedSimpArgs false
theorem zxv (l:List zz1):l.length<=zzu l:=by
 induction l with
 |nil=>simp
 |cons x l ih=>have:=zeh x;simp [zzu];omega
theorem ytw {l:List zz1} {x:zz1} (h:x∈l):z9a x<=zzu l:=by
 induction l with
 |nil=>cases h
 |cons y l ih =>
  rcases List.mem_cons.1 h with rfl|h
  · simp [zzu]
  · have:=ih h;simp [zzu];omega
mutual
def zqo:zz1->List (List UInt8)->List (List UInt8)
 |⟨op,_,nm,l⟩,acc=>zfg l (if op=2∧nm∉acc then acc++[nm] else acc)
def zfg:List zz1->List (List UInt8)->List (List UInt8)
 |[],acc=>acc
 |x::l,acc=>zfg l (zqo x acc)
end
theorem y6t (e:zz1) (acc:List (List UInt8)):zqo e acc=zfg e.args (if e.op=2∧e.name∉acc then acc++[e.name] else acc):=by cases e;rw [zqo]
mutual
def znh:zz1->List (List UInt8)->List (List UInt8)
 |⟨op,_,nm,l⟩,acc=>z8n l (if op=2 then ins acc nm else acc)
def z8n:List zz1->List (List UInt8)->List (List UInt8)
 |[],acc=>acc
 |x::l,acc=>z8n l (znh x acc)
end
theorem zuo (e:zz1) (acc:List (List UInt8)):znh e acc=z8n e.args (if e.op=2 then ins acc e.name else acc):=by cases e;rw [znh]
theorem yu6:∀(e:zz1) (a b:List (List UInt8)),a.Nodup->zdm b->(∀x,x∈a↔x∈b)->(zqo e a).Nodup∧zdm (znh e b)∧(∀x,x∈zqo e a↔x∈znh e b)∧(zqo e a).length<=a.length+z9a e∧(znh e b).length<=b.length+z9a e:=zyx λe ih a b ha hb hab=>by
 have hL:∀(l:List zz1),(∀x∈l,x∈e.args)->∀a b:List (List UInt8),a.Nodup->zdm b->(∀x,x∈a↔x∈b)->(zfg l a).Nodup∧zdm (z8n l b)∧(∀x,x∈zfg l a↔x∈z8n l b)∧(zfg l a).length<=a.length+zzu l∧(z8n l b).length<=b.length+zzu l:=λl=>by
  induction l with
  |nil=>intro _ a b ha hb hab;simp only [zfg,z8n,zzu];exact ⟨ha,hb,hab,Nat.le_refl _,Nat.le_refl _⟩
  |cons x l ihl =>
   intro hm a b ha hb hab
   obtain ⟨h1,h2,h3,h4,h5⟩:=ih x (hm x List.mem_cons_self) a b ha hb hab
   obtain ⟨k1,k2,k3,k4,k5⟩:=ihl (λy hy=>hm y (List.mem_cons_of_mem _ hy)) _ _ h1 h2 h3
   simp only [zfg,z8n,zzu]
   exact ⟨k1,k2,k3,by omega,by omega⟩
 rw [y6t,zuo,zeh]
 by_cases h2:e.op=2
 ·rw [if_pos h2]
  by_cases hn:e.name∈a
  ·rw [if_neg (by simp [hn])]
   obtain ⟨k1,k2,k3,k4,k5⟩:=hL e.args (λ_ h=>h) a (ins b e.name) ha (znp hb) (λx=>by
    rw [zo1,<-hab]
    exact ⟨.inl,λh=>h.elim id λh=>by rw [h];exact hn⟩)
   have:=y00 e.name b
   exact ⟨k1,k2,k3,by omega,by omega⟩
  ·rw [if_pos ⟨h2,hn⟩]
   obtain ⟨k1,k2,k3,k4,k5⟩:=hL e.args (λ_ h=>h) (a++[e.name]) (ins b e.name) (by
    rw [List.nodup_append]
    refine ⟨ha,by simp,λx hx y hy => ?_⟩
    rw [List.mem_singleton.1 hy];intro h;subst h;exact hn hx) (znp hb) (λx=>by
    rw [zo1,<-hab,List.mem_append,List.mem_singleton])
   have:=y00 e.name b
   rw [List.length_append,List.length_singleton] at k4
   exact ⟨k1,k2,k3,by omega,by omega⟩
 ·rw [if_neg h2,if_neg (λh=>h2 h.1)]
  obtain ⟨k1,k2,k3,k4,k5⟩:=hL e.args (λ_ h=>h) a b ha hb hab
  exact ⟨k1,k2,k3,by omega,by omega⟩
theorem yve (e:zz1):z01 (zqo e [])=znh e []:=by
 obtain ⟨h1,h2,h3,_⟩:=yu6 e [] [] (by simp) (by simp [zdm]) (by simp)
 exact zk9 (zif h1) h2 λx=>by rw [(zd6 _).mem_iff,h3]
theorem ygv:∀(e:zz1) (a:List (List UInt8)),(zqo e a).length<=a.length+z9a e:=zyx λe ih a=>by
 have hL:∀(l:List zz1),(∀x∈l,x∈e.args)->∀a:List (List UInt8),(zfg l a).length<=a.length+zzu l:=λl=>by
  induction l with
  |nil=>intro _ a;simp [zfg,zzu]
  |cons x l ihl =>
   intro hm a
   have h1:=ih x (hm x List.mem_cons_self) a
   have h2:=ihl (λy hy=>hm y (List.mem_cons_of_mem _ hy)) (zqo x a)
   simp only [zfg,zzu];omega
 rw [y6t,zeh]
 have:=hL e.args (λ_ h=>h) (if e.op=2∧e.name∉a then a++[e.name] else a)
 have h2:(if e.op=2∧e.name∉a then a++[e.name] else a).length<=a.length+1:=by split <;> simp
 omega
theorem ymq:∀(e:zz1) (a:List (List UInt8)),(znh e a).length<=a.length+z9a e:=zyx λe ih a=>by
 have hL:∀(l:List zz1),(∀x∈l,x∈e.args)->∀a:List (List UInt8),(z8n l a).length<=a.length+zzu l:=λl=>by
  induction l with
  |nil=>intro _ a;simp [z8n,zzu]
  |cons x l ihl =>
   intro hm a
   have h1:=ih x (hm x List.mem_cons_self) a
   have h2:=ihl (λy hy=>hm y (List.mem_cons_of_mem _ hy)) (znh x a)
   simp only [z8n,zzu];omega
 rw [zuo,zeh]
 have hi:=y00 e.name a
 have:=hL e.args (λ_ h=>h) (if e.op=2 then ins a e.name else a)
 split at this
 ·rename_i h;rw [if_pos h];omega
 ·rename_i h;rw [if_neg h];omega
theorem z02q {l:List (List UInt8)} (hl:l.length<=8388608) {s:List UInt8}:∃i:Int,Ev (λn=>zzx n s l) (i,l)∧decide (i>=0)=decide (s∈l):=by
 have loop:∀k,k<=l.length->∃i:Int,Ev (λn=>zzm n (k:Int) s (l.length:Int) l) (i,l)∧decide (i>=0)=decide (s∈l.drop k) :=
  down ⟨-1,by rw [z4d,Ev.kz1 (by simp),Ev.kz0],by simp⟩ λk hk ih=>by
   obtain ⟨i,h1,h2⟩:=ih
   by_cases he:s=l[k]
   ·refine ⟨k,?_,?_⟩
    ·rw [z4d,Ev.yz1 (by simpa using hk),Ev.kz2 (yz6 hk),Ev.yz1 (by simpa using he),Ev.kz0]
    ·have:s∈l.drop k:=by rw [<-List.getElem_cons_drop (h:=hk),he];exact List.mem_cons_self
     simp [this]
   ·refine ⟨i,?_,?_⟩
    ·rw [z4d,Ev.yz1 (by simpa using hk),Ev.kz2 (yz6 hk),Ev.kz1 (by simpa using he),wrk (by omega)];exact h1
    ·rw [h2]
     have:(s∈l.drop k)↔(s∈l.drop (k+1)):=by
      rw [<-List.getElem_cons_drop (h:=hk),List.mem_cons]
      exact ⟨λh=>h.elim (λh=>(he h).elim) id,.inr⟩
     exact decide_eq_decide.2 this.symm
 obtain ⟨i,h1,h2⟩:=loop 0 (Nat.zero_le _)
 exact ⟨i,by rw [zm5];exact h1,by simpa using h2⟩
theorem z00f:∀(e:zz1) (acc:List (List UInt8)),acc.length+z9a e<=8388608->Ev (λn=>zd9 n e acc) (zqo e acc):=zyx λe ih acc hb=>by
 rw [zeh] at hb
 have loop:∀k,k<=e.args.length->∀acc:List (List UInt8),acc.length+zzu (e.args.drop k)<=8388608->Ev (λn=>z82 n (k:Int) e.args (e.args.length:Int) acc) (zfg (e.args.drop k) acc) :=
  down (λacc hb=>by rw [zv8,Ev.kz1 (by simp),Ev.kz0];simp [zfg]) λk hk ihk acc hb=>by
   have hx:=List.getElem_mem hk
   have hlen:=zxv e.args
   rw [<-List.getElem_cons_drop (h:=hk)] at hb ⊢
   simp only [zfg,zzu] at hb ⊢
   have:=ygv e.args[k] acc
   have hk2:k<=8388609:=by
    have:=zxv e.args;omega
   rw [zv8,Ev.yz1 (by simpa using hk),Ev.kz2 (yz6 hk),zz1.yz5,Ev.yz0 (ih _ hx _ (by omega)),wrk (by omega)]
   exact ihk _ (by omega)
 have l1:∀acc:List (List UInt8),acc.length+zzu e.args<=8388608->Ev (λn=>z8i n acc e) (zfg e.args acc):=λacc hb=>by
  rw [y7f];simpa using loop 0 (Nat.zero_le _) acc (by simpa using hb)
 rw [yh8,y6t]
 by_cases h2:e.op=2
 ·obtain ⟨i,h3,h4⟩:=z02q (l:=acc) (by omega) (s:=e.name)
  have hc:Ev (λn=>kzq n e.name acc) (decide (e.name∈acc),acc):=by
   rw [zk3,Ev.yz0 h3,Ev.kz0,h4]
  rw [Ev.yz1 (by simpa using h2),Ev.yz0 hc,zz1.yz5,zum]
  by_cases hn:e.name∈acc
  ·rw [Ev.kz1 (by simpa using hn),if_neg (by simp [hn]),zz1.yz5]
   exact l1 acc (by omega)
  ·rw [Ev.yz1 (by simpa using hn),if_pos ⟨h2,hn⟩,Ev.kz2 (z1k (by simp;omega)),zz1.yz5]
   exact l1 _ (by simp;omega)
 ·rw [Ev.kz1 (by simpa using h2),if_neg (λh=>h2 h.1),zz1.yz5,zum,Ev.kz1 (by rfl),zz1.yz5]
  exact l1 _ (by omega)
theorem y2e {α:Type} {p:α->Bool}:∀{l:List α},(∀x∈l,p x=true)->l.takeWhile p=l∧l.dropWhile p=[]
 |[],_=>⟨rfl,rfl⟩
 |x::l,h=>by
  have hx:=h x List.mem_cons_self
  obtain ⟨h1,h2⟩:=y2e (l:=l) λy hy=>h y (List.mem_cons_of_mem _ hy)
  rw [List.takeWhile_cons_of_pos hx,List.dropWhile_cons_of_pos hx,h1,h2];exact ⟨rfl,rfl⟩
theorem ynl {l:List (List UInt8)} {k:Nat} (hk:k<=l.length) (s:List UInt8) :
  zy0 (l++[[]]) ((k+1:Nat):Int) (k:Int)=some (l.take k++[(l++[[]])[k]'(by simp;omega)]++l.drop k)∧((l.take k++[(l++[[]])[k]'(by simp;omega)]++l.drop k).set k s=l.take k++s::l.drop k):=by
 constructor
 ·unfold zy0
  rw [if_pos (by simp;omega)]
  congr 1
  have e1:((k+1:Nat):Int).toNat=k+1:=by simp
  have e2:((k:Nat):Int).toNat=k:=by simp
  rw [e1,e2]
  have e3:min ((l++[[]]).length-k) ((l++[[]]).length-(k+1))=l.length-k:=by simp;omega
  rw [e3,show k+1+(l.length-k)=l.length+1 by omega]
  have e4:(l++[[]]).drop (l.length+1)=[]:=List.drop_of_length_le (by simp)
  have e5:((l++[[]]).drop k).take (l.length-k)=l.drop k:=by
   rw [List.drop_append_of_le_length hk,List.take_append_of_le_length (by simp),List.take_of_length_le (by simp)]
  have e6:(l++[[]]).take (k+1)=l.take k++[(l++[[]])[k]'(by simp;omega)]:=by
   have hlt:k<(l++[[]]).length:=by simp;omega
   rw [<-zbc hlt,List.take_append_of_le_length hk]
  rw [e4,e5,e6,List.append_nil]
 ·have hl:(l.take k).length=k:=by simp;omega
  rw [List.append_assoc,List.set_append,if_neg (by omega),hl,Nat.sub_self];rfl
theorem yxo:∀(e:zz1) (acc:List (List UInt8)),acc.length+z9a e<=8388608->Ev (λn=>zd8 n e acc) (znh e acc):=zyx λe ih acc hb=>by
 rw [zeh] at hb
 have loop:∀k,k<=e.args.length->∀acc:List (List UInt8),acc.length+zzu (e.args.drop k)<=8388608->Ev (λn=>z7o n (k:Int) acc e) (z8n (e.args.drop k) acc) :=
  down (λacc hb=>by rw [zug,Ev.kz1 (by simp),Ev.kz0];simp [z8n]) λk hk ihk acc hb=>by
   have hx:=List.getElem_mem hk
   have hlen:=zxv e.args
   rw [<-List.getElem_cons_drop (h:=hk)] at hb ⊢
   simp only [z8n,zzu] at hb ⊢
   have:=ymq e.args[k] acc
   rw [zug,Ev.yz1 (by simpa using hk),Ev.kz2 (yz6 hk),zz1.yz5,Ev.yz0 (ih _ hx _ (by omega)),wrk (by omega),zz1.yz5]
   exact ihk _ (by omega)
 have l3:∀acc:List (List UInt8),acc.length+zzu e.args<=8388608->Ev (λn=>z57 n acc e) (z8n e.args acc):=λacc hb=>by
  rw [y7q,zz1.yz5];simpa using loop 0 (Nat.zero_le _) acc (by simpa using hb)
 rw [yjz,zz1.yz5,zuo]
 by_cases h2:e.op=2
 case neg=>rw [Ev.kz1 (by simpa using h2),if_neg h2];exact l3 _ (by omega)
 rw [Ev.yz1 (by simpa using h2),if_pos h2]
 have hil:=y00 e.name acc
 have fin:∀k,k<=acc.length->acc.takeWhile (λx=>Op.bytesLess x e.name)=acc.take k->acc.dropWhile (λx=>Op.bytesLess x e.name)=acc.drop k->Ev (λn=>z8b n (k:Int) false e acc) (z8n e.args (ins acc e.name)):=λk hk ht hd=>by
  have hins:=yqw e.name acc
  rw [ht,hd] at hins
  have put:ins acc e.name=acc.take k++e.name::acc.drop k->Ev (λn=>z8a n (k:Int) true e acc) (z8n e.args (ins acc e.name)):=λhi=>by
   obtain ⟨s1,s2⟩:=ynl hk e.name
   have hx:ext acc [[]]=some (acc++[[]]):=z1k (by simp;omega)
   have hc1:y4b (acc++[[]]) ((k+1:Nat):Int)=some ():=by unfold y4b;rw [if_pos (by simp;omega)]
   have hc2:y4b (acc++[[]]) (k:Int)=some ():=by unfold y4b;rw [if_pos (by simp;omega)]
   have hg:ix (acc.take k++[(acc++[[]])[k]'(by simp;omega)]++acc.drop k) (k:Int)=some ((acc++[[]])[k]'(by simp;omega)):=by
    rw [z00e,List.append_assoc,List.getElem?_append_right (by simp;omega)]
    simp [Nat.min_eq_left hk]
   rw [zv4,Ev.yz1 (by rfl),Ev.kz2 hx,wrk (by omega),Ev.kz2 hc1,Ev.kz2 hc2,Ev.kz2 s1,Ev.kz2 hg,zz1.yz5,Int.toNat_natCast,s2,<-hi]
   exact l3 _ (by omega)
  rw [ztw,Ev.kz1 (by rfl),zz1.yz5]
  by_cases he:k=acc.length
  ·rw [Ev.yz1 (by simp;omega)]
   exact put (by rw [hins,if_neg (by rw [List.drop_of_length_le (by omega)];simp)])
  ·have hlt:k<acc.length:=by omega
   rw [Ev.kz1 (by simp;omega),Ev.kz2 (yz6 hlt)]
   have hhead:(acc.drop k).head?=some acc[k]:=by rw [<-List.getElem_cons_drop (h:=hlt)];rfl
   by_cases heq:acc[k]=e.name
   ·rw [show (!(acc[k]==e.name))=false by simpa using heq,zv4,Ev.kz1 (by rfl),zz1.yz5]
    have:ins acc e.name=acc:=by rw [hins,if_pos (by rw [hhead,heq])]
    rw [this]
    exact l3 _ (by omega)
   ·rw [show (!(acc[k]==e.name))=true by simpa using heq]
    exact put (by rw [hins,if_neg (by rw [hhead];simpa using heq)])
 have place:∀k,k<=acc.length->(acc.take k).all (λx=>Op.bytesLess x e.name)=true->Ev (λn=>z5h n (k:Int) e acc) (z8n e.args (ins acc e.name)) :=
  down (Q:=λk=>(acc.take k).all (λx=>Op.bytesLess x e.name)=true->Ev (λn=>z5h n (k:Int) e acc) (z8n e.args (ins acc e.name))) (λhall=>by
   rw [List.take_length] at hall
   rw [List.all_eq_true] at hall
   rw [zur,Ev.kz1 (by simp),zz1.yz5]
   refine fin _ (Nat.le_refl _) ?_ ?_
   ·rw [List.take_length];exact (y2e hall).1
   ·rw [List.drop_length];exact (y2e hall).2) λk hk ihk hall=>by
   have hsplit:acc=acc.take k++acc.drop k:=(List.take_append_drop k acc).symm
   rw [zur,Ev.yz1 (by simpa using hk),Ev.kz2 (yz6 hk),zz1.yz5]
   cases hb:Op.bytesLess acc[k] e.name
   ·rw [List.all_eq_true] at hall
    refine fin k (by omega) ?_ ?_
    ·conv=>lhs;rw [hsplit]
     rw [List.takeWhile_append_of_pos hall,<-List.getElem_cons_drop (h:=hk),List.takeWhile_cons_of_neg (by simp [hb]),List.append_nil]
    ·conv=>lhs;rw [hsplit]
     rw [List.dropWhile_append_of_pos hall,<-List.getElem_cons_drop (h:=hk),List.dropWhile_cons_of_neg (by simp [hb])]
   ·rw [ztw,Ev.yz1 (by rfl),wrk (by omega),zz1.yz5]
    refine ihk ?_
    rw [<-zbc hk,List.all_append,hall];simp [hb]
 exact place 0 (Nat.zero_le _) (by simp)
noncomputable def z5l (e:zz1):List (List UInt8)×Int:=if z3n e≠0 then ([],z3n e) else (znh e [],0)
theorem yfq {e:zz1} (hw:e.wf) (hs:e.size<=8388608):Ev (λn=>zdb n e) (z5l e):=by
 rw [yio,zz1.yz5,Ev.yz0 (zwm hw hs)]
 unfold z5l
 by_cases hc:z3n e=0
 case neg=>rw [Ev.yz1 (by simpa using hc),Ev.kz0,if_pos hc]
 obtain ⟨_,hp,_⟩:=zyg hc
 have hl:=ygv e []
 have hsort:Ev (λn=>z0k n (zqo e [])) (znh e []):=by
  refine .same (λn => ?_) (.pure rfl)
  unfold z0k
  rw [if_pos (by simp at hl;omega),yve]
 rw [Ev.kz1 (by simpa using hc),if_neg (by simpa using hc),Ev.yz0 (z00f e [] (by simp;omega)),Ev.yz0 hsort,Ev.kz0]
theorem y87 {e:zz1} (hs:e.size<=8388608):Ev (λn=>zc2 n e) (z5l e):=by
 rw [ygw,zz1.yz5,Ev.yz0 (zl4 hs)]
 unfold z5l
 by_cases hc:z3n e=0
 case neg=>rw [Ev.yz1 (by simpa using hc),Ev.yz0 (zl4 hs),Ev.kz0,if_pos hc]
 obtain ⟨_,hp,_⟩:=zyg hc
 rw [Ev.kz1 (by simpa using hc),if_neg (by simpa using hc),Ev.yz0 (yxo e [] (by simp;omega)),Ev.kz0]
end Go.Proofs.YtahcjggdcmgpkaaGreat
namespace Go.Proofs.YtahcjggdcmgpkaaGreat
open Go Go.Ab
set_option linter.unusedVariables false
set_option linter.unusedSimpArgs false
theorem zws {α:Type} {f:α->Nat}:∀{l:List α} {x:α},x∈l->f x<=(l.map f).sum
 |y::l,x,h=>by
  simp only [List.map_cons,List.sum_cons]
  rcases List.mem_cons.1 h with h|h
  · subst h;omega
  · have:=zws (f:=f) h;omega
theorem zwx {α:Type} {f:α->Nat} (hf:∀x,1<=f x):∀l:List α,l.length<=(l.map f).sum
 |[]=>by simp
 |x::l=>by have:=zwx hf l;have:=hf x;simp only [List.length_cons,List.map_cons,List.sum_cons];omega
def z34 (l:List zz1):zz1:=⟨18,⟨0,⟨0,0⟩,false,[],[]⟩,[],l⟩
theorem zhe (l:List zz1):(z34 l).size=(l.map zz1.size).sum+12:=by
 rw [zz1.size_eq];show 1+yz2.size _+0+1+((l.map zz1.size).sum+1)+1=_
 rw [yz2.size_eq];show 1+(1+(1+1+1)+1+(0+1)+(0+1)+1)+0+1+((l.map zz1.size).sum+1)+1=_
 omega
theorem yvw {l:List zz1} (h:∀x∈l,x.wf):(z34 l).wf:=by
 rw [zz1.z5t]
 refine ⟨by show (IntKind.u8.min<=18∧18<=IntKind.u8.max);decide,?_,trivial,h⟩
 rw [yz2.z5t]
 refine ⟨by show (IntKind.u8.min<=0∧0<=IntKind.u8.max);decide,?_,trivial,trivial,by simp [z34]⟩
 rw [kz6.z5t]
 exact ⟨by show (IntKind.i64.min<=0∧0<=IntKind.i64.max);decide,by show (IntKind.i64.min<=0∧0<=IntKind.i64.max);decide⟩
theorem z034 {a b:List zz1}:eqB (z34 a) (z34 b)=eqB a b:=by
 by_cases h:a=b
 ·rw [h,zb1,zb1]
 ·rw [zzp.2 h,zzp.2 (λe=>h (by injection e))]
section
variable {p : zz0} {t : zz7} {r : kz4} {c : kz5} {a : zz3} {x : yza} {e : zz1}
theorem zx0 (h:t∈p.attrs):t.size+2<=p.size:=by have:=zws (f:=zz7.size) h;rw [zz0.size_eq];omega
theorem zne (h:r∈p.rules):r.size+2<=p.size:=by have:=zws (f:=kz4.size) h;rw [zz0.size_eq];omega
theorem zx6:t.value.size+t.name.length+2<=t.size:=by rw [zz7.size_eq];omega
theorem zsk (h:c∈r.cases):c.size+2<=r.size:=by have:=zws (f:=kz5.size) h;rw [kz4.size_eq];omega
theorem z04n:r.name.length+2<=r.size:=by rw [kz4.size_eq];omega
theorem z07a {s:List UInt8} (h:s∈r.params):s.length+2<=r.size:=by have:=zws (f:=λs:List UInt8=>s.length+1) h;rw [kz4.size_eq];omega
theorem y7x:c.when_.size+2<=c.size:=by rw [kz5.size_eq];omega
theorem zwz (h:a∈c.do_):a.size+2<=c.size:=by have:=zws (f:=zz3.size) h;rw [kz5.size_eq];omega
theorem z07j:a.name.length+2<=a.size:=by rw [zz3.size_eq];omega
theorem y7y:(a.args.map zz1.size).sum+5<=a.size:=by rw [zz3.size_eq];omega
theorem y42 (h:x∈a.items):x.size+2<=a.size:=by have:=zws (f:=yza.size) h;rw [zz3.size_eq];omega
theorem z07i:x.name.length+2<=x.size:=by rw [yza.size_eq];omega
theorem y8s:(x.args.map zz1.size).sum+4<=x.size:=by rw [yza.size_eq];omega
theorem zju:p.attrs.length<=p.size:=by have:=zwx (f:=zz7.size) (λx=>by rw [zz7.size_eq];omega) p.attrs;rw [zz0.size_eq];omega
theorem zek:p.rules.length<=p.size:=by have:=zwx (f:=kz4.size) (λx=>by rw [kz4.size_eq];omega) p.rules;rw [zz0.size_eq];omega
theorem zxy:r.params.length<=r.size:=by have:=zwx (f:=λs:List UInt8=>s.length+1) (λx=>by omega) r.params;rw [kz4.size_eq];omega
theorem zv7:r.cases.length<=r.size:=by have:=zwx (f:=kz5.size) (λx=>by rw [kz5.size_eq];omega) r.cases;rw [kz4.size_eq];omega
theorem zuf:c.do_.length<=c.size:=by have:=zwx (f:=zz3.size) (λx=>by rw [zz3.size_eq];omega) c.do_;rw [kz5.size_eq];omega
theorem zyv:a.items.length<=a.size:=by have:=zwx (f:=yza.size) (λx=>by rw [yza.size_eq];omega) a.items;rw [zz3.size_eq];omega
theorem z05q:a.args.length<=a.size:=by have:=zcd a.args;have:=@y7y a;omega
theorem z03l:x.args.length<=x.size:=by have:=zcd x.args;have:=@y8s x;omega
theorem z010 (h:p.wf) (ht:t∈p.attrs):t.value.wf:=by rw [zz0.z5t] at h;have:=h.1 t ht;rw [zz7.z5t] at this;exact this.2
theorem yth (h:p.wf) (hr:r∈p.rules):r.wf:=by rw [zz0.z5t] at h;exact h.2 r hr
theorem z01f (h:r.wf) (hc:c∈r.cases):c.wf:=by rw [kz4.z5t] at h;exact h.2.2 c hc
theorem z05r (h:c.wf):c.when_.wf:=by rw [kz5.z5t] at h;exact h.2.1
theorem z00m (h:c.wf) (ha:a∈c.do_):a.wf:=by rw [kz5.z5t] at h;exact h.2.2 a ha
theorem z077 (h:a.wf):(0<=a.kind∧a.kind<=255)∧(0<=a.axis∧a.axis<=255):=by rw [zz3.z5t] at h;exact ⟨h.1,h.2.1⟩
theorem wf_aa (h:a.wf):(z34 a.args).wf:=by rw [zz3.z5t] at h;exact yvw h.2.2.2.1
theorem wf_ae (h:a.wf) (he:e∈a.args):e.wf:=by rw [zz3.z5t] at h;exact h.2.2.2.1 e he
theorem z07g (h:a.wf) (hx:x∈a.items):x.wf:=by rw [zz3.z5t] at h;exact h.2.2.2.2 x hx
theorem wf_xa (h:x.wf):(z34 x.args).wf:=by rw [yza.z5t] at h;exact yvw h.2.2
theorem wf_xe (h:x.wf) (he:e∈x.args):e.wf:=by rw [yza.z5t] at h;exact h.2.2 e he
end
theorem z04x {α:Type} {a b:List α} (h:¬a.length=b.length):((a.length:Int) != (b.length:Int))=true:=by simp;omega
theorem z00j {α:Type} {a b:List α} (h:a.length=b.length):((a.length:Int) != (b.length:Int))=false:=by simp;omega
theorem zl7 {α:Type} {F:Nat->List α->List α->Option Bool} {L:Nat->Int->List α->List α->Int->Option Bool} {S:Nat->α->α->Option Bool} {a b:List α}
  (hF:∀n,F (n+1) a b=pIf ((a.length:Int) != (b.length:Int)) (some false) (L n 0 b a (a.length:Int)))
  (hL:∀n (k:Int),L (n+1) k b a (a.length:Int)=pIf (decide (k<(a.length:Int))) ((ix a k).bind λx0=>(ix b k).bind λx1=>(S n x0 x1).bind λy2=>pIf (!y2) (some false) (L n (IntKind.i64.wrap (k+1)) b a (a.length:Int))) (some true))
  (hb:a.length<=8388608) (hS:∀x∈a,∀y,Ev (λn=>S n x y) (eqB x y)):Ev (λn=>F n a b) (eqB a b):=by
 rw [Ev.zlv hF]
 by_cases hlen:a.length=b.length
 case neg=>rw [Ev.yz1 (z04x hlen),Ev.kz0,zzp.2 (λh=>hlen (by rw [h]))]
 rw [Ev.kz1 (z00j hlen)]
 have:=y20 (L:=λn k=>L n k b a (a.length:Int)) (fail:=false) (r:=true) hlen
  (by rw [Ev.zlv (λn=>hL n _),Ev.kz1 (by simp),Ev.kz0]) λk hk hk' v hv=>by
   rw [Ev.zlv (λn=>hL n _),Ev.yz1 (by simpa using hk),Ev.kz2 (yz6 hk),Ev.kz2 (yz6 hk'),Ev.yz0 (hS _ (List.getElem_mem hk) _)]
   by_cases he:a[k]=b[k]
   ·rw [he,zb1,Ev.kz1 (by rfl),wrk (by omega)];exact hv
   ·rw [zzp.2 he,Ev.yz1 (by rfl),Ev.kz0];rfl
 cases h:eqB a b <;> rw [h] at this <;> exact this
theorem y5o {α:Type} {L:Nat->Int->List α->Int->Option Int} {S:Nat->α->Option Bool} {l:List α} {p:α->Bool}
  (hL:∀n (k:Int),L (n+1) k l (l.length:Int)=pIf (decide (k<(l.length:Int))) ((ix l k).bind λx0=>(S n x0).bind λy1=>pIf y1 (some k) (L n (IntKind.i64.wrap (k+1)) l (l.length:Int))) (some (-1)))
  (hb:l.length<=8388608) (hS:∀x∈l,Ev (λn=>S n x) (p x)):∃i:Int,Ev (λn=>L n 0 l (l.length:Int)) i∧decide (i>=0)=l.any p:=by
 have:∀k,k<=l.length->∃i:Int,Ev (λn=>L n (k:Int) l (l.length:Int)) i∧decide (i>=0)=(l.drop k).any p :=
  down ⟨-1,by rw [Ev.zlv (λn=>hL n _),Ev.kz1 (by simp),Ev.kz0],by simp⟩ λk hk ⟨i,h1,h2⟩=>by
   cases hp:p l[k] with
   |true =>
    refine ⟨k,?_,?_⟩
    · rw [Ev.zlv (λn=>hL n _),Ev.yz1 (by simpa using hk),Ev.kz2 (yz6 hk),Ev.yz0 (hS _ (List.getElem_mem hk)),hp,Ev.yz1 rfl,Ev.kz0]
    · rw [<-List.getElem_cons_drop (h:=hk),List.any_cons,hp];simp
   |false =>
    refine ⟨i,?_,?_⟩
    · rw [Ev.zlv (λn=>hL n _),Ev.yz1 (by simpa using hk),Ev.kz2 (yz6 hk),Ev.yz0 (hS _ (List.getElem_mem hk)),hp,Ev.kz1 rfl,wrk (by omega)];exact h1
    · rw [<-List.getElem_cons_drop (h:=hk),List.any_cons,hp,h2];simp
 simpa using this 0 (Nat.zero_le _)
theorem y07:∀a b:zz1,a.size<=8388608->Ev (λn=>z4f n a b) (eqB a b):=zyx (P:=λa=>∀b:zz1,a.size<=8388608->Ev (λn=>z4f n a b) (eqB a b)) λa ih b hs=>by
 have hsz:=zbq a
 have hlen:=zcd a.args
 rw [yp8]
 by_cases h1:a.op=b.op
 case neg=>rw [Ev.kz1 (by simpa using h1),Ev.kz0,zzp.2 (λh=>h1 (by rw [h]))]
 rw [Ev.yz1 (by simpa using h1)]
 by_cases h2:a.name=b.name
 case neg=>rw [Ev.kz1 (by simpa using h2),Ev.kz0,zzp.2 (λh=>h2 (by rw [h]))]
 rw [Ev.yz1 (by simpa using h2),yz2.yz5,yz2.yz5,Ev.yz0 (yg6 _ _ (by omega))]
 by_cases h3:a.value=b.value
 case neg=>rw [zzp.2 h3,Ev.kz1 rfl,Ev.kz0,zzp.2 (λh=>h3 (by rw [h]))]
 rw [h3,zb1,Ev.yz1 rfl,Ev.yz0 (zl7 (S:=λn x y=>z4f n x.re y.re) (λn=>yz9.eq_2 _ _ n) (λn k=>zz8.eq_2 _ _ _ _ n) (by omega) λx hx y=>by rw [zz1.yz5,zz1.yz5];exact ih x hx y (by have:=zoj hx;omega)),Ev.kz0]
 obtain ⟨a1,a2,a3,a4⟩:=a
 obtain ⟨b1,b2,b3,b4⟩:=b
 cases h1;cases h2;cases h3
 by_cases h:a4=b4
 ·cases h;rw [zb1,zb1]
 ·rw [zzp.2 h,zzp.2 (λe=>h (by injection e))]
theorem zwk:∀a b:zz1,a.size<=8388608->Ev (λn=>z5o n a b) (eqB a b):=zyx (P:=λa=>∀b:zz1,a.size<=8388608->Ev (λn=>z5o n a b) (eqB a b)) λa ih b hs=>by
 have hsz:=zbq a
 have hlen:=zcd a.args
 have bad:a≠b->Ev (λn=>z35 n true b a) (eqB a b):=λh=>by rw [zup,Ev.yz1 rfl,Ev.kz0,zzp.2 h]
 rw [yjm,zz1.yz5,zz1.yz5]
 by_cases h1:a.op=b.op
 case neg=>rw [Ev.yz1 (by simpa using h1)];exact bad λh=>h1 (by rw [h])
 rw [Ev.kz1 (by simpa using h1)]
 by_cases h2:a.name=b.name
 case neg=>rw [Ev.yz1 (by simpa using h2)];exact bad λh=>h2 (by rw [h])
 rw [Ev.kz1 (by simpa using h2),yz2.yz5,yz2.yz5,Ev.yz0 (ybs _ _ (by omega))]
 by_cases h3:a.value=b.value
 case neg=>rw [zzp.2 h3,Ev.yz1 (by rfl)];exact bad λh=>h3 (by rw [h])
 rw [h3,zb1,Ev.kz1 (by rfl)]
 by_cases h4:a.args.length=b.args.length
 case neg=>rw [z04x h4];exact bad λh=>h4 (by rw [h])
 rw [z00j h4,zup,Ev.kz1 rfl,zz1.yz5,zz1.yz5]
 have:=y20 (L:=λn k=>z7r n k b a) (fail:=false) (r:=true) h4
  (by rw [zu0,Ev.kz1 (by simp),Ev.kz0]) λk hk hk' v hv=>by
   rw [zu0,Ev.yz1 (by simpa using hk),Ev.kz2 (yz6 hk),Ev.kz2 (yz6 hk'),zz1.yz5,zz1.yz5,Ev.yz0 (ih _ (List.getElem_mem hk) _ (by have:=zoj (List.getElem_mem hk);omega))]
   by_cases he:a.args[k]=b.args[k]
   ·rw [he,zb1,Ev.kz1 (by rfl),wrk (by omega),zz1.yz5,zz1.yz5];exact hv
   ·rw [zzp.2 he,Ev.yz1 (by rfl),Ev.kz0];rfl
 have e:(if eqB a.args b.args=true then true else false)=eqB a b:=by
  obtain ⟨a1,a2,a3,a4⟩:=a
  obtain ⟨b1,b2,b3,b4⟩:=b
  cases h1;cases h2;cases h3
  by_cases h:a4=b4
  ·cases h;rw [zb1,zb1];rfl
  ·rw [zzp.2 h,zzp.2 (λe=>h (by injection e))];rfl
 rw [<-e];exact this
end Go.Proofs.YtahcjggdcmgpkaaGreat
