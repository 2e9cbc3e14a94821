/- The table of the lot layer's functions, for closed calls. -/
import Derived.Test.YtphdemhopihpnaaLotIcB
import Derived.Test.YtphdemhopihpnaaLotIcC
namespace Go.Proofs.Ytphdemhopihpnaa.AM
open Go

def lotTab (b30 b58 b74 : Code) : List (Nat × FE) :=
  [(16, ⟨ic16, vs16, 31, rs16, true⟩),
  (18, ⟨ic18, vs18, 49, rs18, true⟩),
  (20, ⟨ic20, vs20, 26, rs20, true⟩),
  (21, ⟨ic21, vs21, 25, rs21, true⟩),
  (23, ⟨ic23, vs23, 136, rs23, true⟩),
  (24, ⟨ic24, vs24, 51, rs24, true⟩),
  (26, ⟨ic26, vs26, 18, rs26, true⟩),
  (28, ⟨ic28, vs28, 33, rs28, true⟩),
  (30, ⟨ic30 b30, vs30, 68, rs30, true⟩),
  (32, ⟨ic32, vs32, 63, rs32, true⟩),
  (34, ⟨ic34, vs34, 69, rs34, true⟩),
  (36, ⟨ic36, vs36, 4, rs36, true⟩),
  (37, ⟨ic37, vs37, 4, rs37, true⟩),
  (47, ⟨ic47, vs47, 10, rs47, true⟩),
  (50, ⟨ic50, vs50, 11, rs50, true⟩),
  (53, ⟨ic53, vs53, 18, rs53, false⟩),
  (54, ⟨ic54, vs54, 10, rs54, false⟩),
  (55, ⟨ic55, vs55, 12, rs55, false⟩),
  (58, ⟨ic58 b58, vs58, 40, rs58, false⟩),
  (60, ⟨ic60, vs60, 6, rs60, false⟩),
  (62, ⟨ic62, vs62, 14, rs62, false⟩),
  (63, ⟨ic63, vs63, 15, rs63, true⟩),
  (64, ⟨ic64, vs64, 18, rs64, true⟩),
  (65, ⟨ic65, vs65, 20, rs65, true⟩),
  (66, ⟨ic66, vs66, 36, rs66, true⟩),
  (67, ⟨ic67, vs67, 16, rs67, false⟩),
  (68, ⟨ic68, vs68, 30, rs68, false⟩),
  (71, ⟨ic71, vs71, 26, rs71, true⟩),
  (72, ⟨ic72, vs72, 9, rs72, true⟩),
  (73, ⟨ic73, vs73, 13, rs73, true⟩),
  (74, ⟨ic74 b74, vs74, 45, rs74, false⟩),
  (75, ⟨ic75, vs75, 56, rs75, false⟩),
  (76, ⟨ic76, vs76, 148, rs76, false⟩),
  (77, ⟨ic77, vs77, 8, rs77, true⟩),
  (78, ⟨ic78, vs78, 6, rs78, true⟩),
  (79, ⟨ic79, vs79, 19, rs79, false⟩),
  (80, ⟨ic80, vs80, 17, rs80, false⟩),
  (81, ⟨ic81, vs81, 19, rs81, true⟩),
  (82, ⟨ic82, vs82, 53, rs82, false⟩),
  (83, ⟨ic83, vs83, 60, rs83, false⟩),
  (84, ⟨ic84, vs84, 67, rs84, false⟩),
  (85, ⟨ic85, vs85, 63, rs85, false⟩),
  (86, ⟨ic86, vs86, 34, rs86, false⟩),
  (87, ⟨ic87, vs87, 141, rs87, false⟩),
  (88, ⟨ic88, vs88, 90, rs88, false⟩),
  (89, ⟨ic89, vs89, 178, rs89, false⟩),
  (90, ⟨ic90, vs90, 19, rs90, true⟩),
  (91, ⟨ic91, vs91, 25, rs91, true⟩),
  (92, ⟨ic92, vs92, 82, rs92, false⟩),
  (93, ⟨ic93, vs93, 7, rs93, true⟩),
  (94, ⟨ic94, vs94, 33, rs94, false⟩),
  (95, ⟨ic95, vs95, 18, rs95, false⟩),
  (96, ⟨ic96, vs96, 41, rs96, false⟩),
  (97, ⟨ic97, vs97, 32, rs97, false⟩)]

theorem lotTab_ok : TOk Try.prog (lotTab (Try.f30.body.getD .skip) (Try.f58.body.getD .skip) (Try.f74.body.getD .skip)) :=
  ⟨fok16 _, fok18 _, fok20 _, fok21 _, fok23 _, fok24 _, fok26 _, fok28 _, fok30 _, fok32 _, fok34 _, fok36 _, fok37 _, fok47 _, fok50 _, fok53 _, fok54 _, fok55 _, fok58 _, fok60 _, fok62 _, fok63 _, fok64 _, fok65 _, fok66 _, fok67 _, fok68 _, fok71 _, fok72 _, fok73 _, fok74 _, fok75 _, fok76 _, fok77 _, fok78 _, fok79 _, fok80 _, fok81 _, fok82 _, fok83 _, fok84 _, fok85 _, fok86 _, fok87 _, fok88 _, fok89 _, fok90 _, fok91 _, fok92 _, fok93 _, fok94 _, fok95 _, fok96 _, fok97 _, trivial⟩

end Go.Proofs.Ytphdemhopihpnaa.AM
