/- Parts of the proof, joined: TlTab to TlAwake. -/
import Derived.Test.YtpmokaefmcffaaaGreatChecked
import Derived.Test.YtpmokaefmcffaaaGreatZ7
set_option linter.unusedVariables false
set_option linter.unusedSimpArgs false
set_option linter.unusedSectionVars false
namespace Go.Proofs.YtpmokaefmcffaaaGreat.AM
variable [Dr]
open Go
def lotTab (b28 b37 b85:Code):List (Nat × FE) :=
 [(16,⟨ic16,vs16,31,rs16,true⟩),
 (17,⟨ic17,vs17,49,rs17,true⟩),
 (31,⟨ic31,vs31,26,rs31,true⟩),
 (25,⟨ic25,vs25,25,rs25,true⟩),
 (6,⟨ic6,vs6,136,rs6,true⟩),
 (82,⟨ic82,vs82,51,rs82,true⟩),
 (26,⟨ic26,vs26,18,rs26,true⟩),
 (9,⟨ic9,vs9,33,rs9,true⟩),
 (28,⟨ic28 b28,vs28,68,rs28,true⟩),
 (10,⟨ic10,vs10,63,rs10,true⟩),
 (30,⟨ic30,vs30,69,rs30,true⟩),
 (29,⟨ic29,vs29,4,rs29,true⟩),
 (27,⟨ic27,vs27,4,rs27,true⟩),
 (34,⟨ic34,vs34,10,rs34,true⟩),
 (55,⟨ic55,vs55,11,rs55,true⟩),
 (33,⟨ic33,vs33,18,rs33,false⟩),
 (35,⟨ic35,vs35,10,rs35,false⟩),
 (36,⟨ic36,vs36,12,rs36,false⟩),
 (37,⟨ic37 b37,vs37,40,rs37,false⟩),
 (73,⟨ic73,vs73,6,rs73,false⟩),
 (38,⟨ic38,vs38,14,rs38,false⟩),
 (39,⟨ic39,vs39,15,rs39,true⟩),
 (40,⟨ic40,vs40,18,rs40,true⟩),
 (41,⟨ic41,vs41,20,rs41,true⟩),
 (42,⟨ic42,vs42,36,rs42,true⟩),
 (43,⟨ic43,vs43,16,rs43,false⟩),
 (44,⟨ic44,vs44,30,rs44,false⟩),
 (74,⟨ic74,vs74,26,rs74,true⟩),
 (83,⟨ic83,vs83,9,rs83,true⟩),
 (84,⟨ic84,vs84,13,rs84,true⟩),
 (85,⟨ic85 b85,vs85,45,rs85,false⟩),
 (98,⟨ic98,vs98,56,rs98,false⟩),
 (86,⟨ic86,vs86,148,rs86,false⟩),
 (87,⟨ic87,vs87,8,rs87,true⟩),
 (88,⟨ic88,vs88,6,rs88,true⟩),
 (89,⟨ic89,vs89,19,rs89,false⟩),
 (90,⟨ic90,vs90,17,rs90,false⟩),
 (104,⟨ic104,vs104,19,rs104,true⟩),
 (105,⟨ic105,vs105,53,rs105,false⟩),
 (106,⟨ic106,vs106,60,rs106,false⟩),
 (107,⟨ic107,vs107,67,rs107,false⟩),
 (108,⟨ic108,vs108,63,rs108,false⟩),
 (109,⟨ic109,vs109,34,rs109,false⟩),
 (110,⟨ic110,vs110,141,rs110,false⟩),
 (111,⟨ic111,vs111,90,rs111,false⟩),
 (112,⟨ic112,vs112,178,rs112,false⟩),
 (113,⟨ic113,vs113,19,rs113,true⟩),
 (114,⟨ic114,vs114,25,rs114,true⟩),
 (134,⟨ic134,vs134,82,rs134,false⟩),
 (135,⟨ic135,vs135,7,rs135,true⟩),
 (136,⟨ic136,vs136,33,rs136,false⟩),
 (137,⟨ic137,vs137,18,rs137,false⟩),
 (138,⟨ic138,vs138,41,rs138,false⟩),
 (160,⟨ic160,vs160,32,rs160,false⟩)]
theorem lotTab_ok:TOk Tryz.prog (lotTab (Tryz.f28.body.getD .skip) (Tryz.f37.body.getD .skip) (Tryz.f85.body.getD .skip)) :=
 ⟨fok16 _,fok17 _,fok31 _,fok25 _,fok6 _,fok82 _,fok26 _,fok9 _,fok28 _,fok10 _,fok30 _,fok29 _,fok27 _,fok34 _,fok55 _,fok33 _,fok35 _,fok36 _,fok37 _,fok73 _,fok38 _,fok39 _,fok40 _,fok41 _,fok42 _,fok43 _,fok44 _,fok74 _,fok83 _,fok84 _,fok85 _,fok98 _,fok86 _,fok87 _,fok88 _,fok89 _,fok90 _,fok104 _,fok105 _,fok106 _,fok107 _,fok108 _,fok109 _,fok110 _,fok111 _,fok112 _,fok113 _,fok114 _,fok134 _,fok135 _,fok136 _,fok137 _,fok138 _,fok160 _,trivial⟩
end Go.Proofs.YtpmokaefmcffaaaGreat.AM
namespace Go.Proofs.YtpmokaefmcffaaaGreat.AM
variable [Dr]
open Go
set_option maxRecDepth 100000
def drawD:AV:=.agg [.cv (.rsl [.int .i64 1,.int .i64 1,.int .i64 2] 3),.cv (.rsl [.int .i64 1,.int .i64 1,.int .i64 6] 3)]
def drawE:AV:=.agg [.cv (.rsl [.int .i64 1,.int .i64 1,.int .i64 2] 3),.cv (.rsl [.int .i64 1,.int .i64 1,.int .i64 6,.int .i64 6] 4)]
def TL₀ (b28 b37 b85:Code) (k:Kn):Tb:=⟨tget (lotTab b28 b37 b85),k⟩
theorem TL_ok {k:Kn} (hk:KnOk Tryz.prog k):TbOk Tryz.prog (TL₀ (Tryz.f28.body.getD .skip) (Tryz.f37.body.getD .skip) (Tryz.f85.body.getD .skip) k):=⟨fun _ _ h=>TOk.get lotTab_ok _ _ h,hk⟩
theorem runShortE (b28 b37 b85:Code):JL (TL₀ b28 b37 b85 []) (UI (TL₀ b28 b37 b85 []) 1000000 40) 1000000 [] 10 [drawE] []=some (true,.tup [.cv (.rsl [.int .i64 2,.int .i64 3] 2),.i 0],[]):=by kernel_rfl
theorem knShortE (σ:List AObj):AC Tryz.prog 10 [drawE] σ fun r τ=>r=.tup [.cv (.rsl [.int .i64 2,.int .i64 3] 2),.i 0]∧τ=σ:=AC_run (Checked.mixed Tryz.checked) (TL_ok (k:=[]) trivial) 1000000 40 (runShortE _ _ _) rfl σ
theorem runCountD (b28 b37 b85:Code):JL (TL₀ b28 b37 b85 []) (UI (TL₀ b28 b37 b85 []) 1000000 40) 1000000 [] 26 [drawD] []=some (true,.tup [.i 3,.i 0],[]):=by kernel_rfl
theorem knCountD (σ:List AObj):AC Tryz.prog 26 [drawD] σ fun r τ=>r=.tup [.i 3,.i 0]∧τ=σ:=AC_run (Checked.mixed Tryz.checked) (TL_ok (k:=[]) trivial) 1000000 40 (runCountD _ _ _) rfl σ
theorem runPickD1 (b28 b37 b85:Code):JL (TL₀ b28 b37 b85 []) (UI (TL₀ b28 b37 b85 []) 1000000 40) 1000000 [] 9 [drawD,.i 1] []=some (true,.tup [.cv (.rsl [.int .i64 2,.int .i64 1,.int .i64 0] 3),.i 0],[]):=by kernel_rfl
theorem knPickD1 (σ:List AObj):AC Tryz.prog 9 [drawD,.i 1] σ fun r τ=>r=.tup [.cv (.rsl [.int .i64 2,.int .i64 1,.int .i64 0] 3),.i 0]∧τ=σ:=AC_run (Checked.mixed Tryz.checked) (TL_ok (k:=[]) trivial) 1000000 40 (runPickD1 _ _ _) rfl σ
theorem runIndexD (b28 b37 b85:Code):JL (TL₀ b28 b37 b85 []) (UI (TL₀ b28 b37 b85 []) 1000000 40) 1000000 [] 28 [drawD,.cv (.rsl [.int .i64 2,.int .i64 1,.int .i64 0] 3)] []=some (true,.tup [.i 1,.i 0],[]):=by kernel_rfl
theorem knIndexD (σ:List AObj):AC Tryz.prog 28 [drawD,.cv (.rsl [.int .i64 2,.int .i64 1,.int .i64 0] 3)] σ fun r τ=>r=.tup [.i 1,.i 0]∧τ=σ:=AC_run (Checked.mixed Tryz.checked) (TL_ok (k:=[]) trivial) 1000000 40 (runIndexD _ _ _) rfl σ
theorem runHonestD (b28 b37 b85:Code):JL (TL₀ b28 b37 b85 []) (UI (TL₀ b28 b37 b85 []) 1000000 40) 1000000 [] 30 [drawD,.cv (.rsl [.int .i64 152436061] 1),.cv (.rsl [.int .i64 0] 1),.cv (.rsl [.int .i64 2,.int .i64 1,.int .i64 0] 3)] []=some (true,.tup [.b true,.i 0],[]):=by kernel_rfl
theorem knHonestD (σ:List AObj):AC Tryz.prog 30 [drawD,.cv (.rsl [.int .i64 152436061] 1),.cv (.rsl [.int .i64 0] 1),.cv (.rsl [.int .i64 2,.int .i64 1,.int .i64 0] 3)] σ fun r τ=>r=.tup [.b true,.i 0]∧τ=σ:=AC_run (Checked.mixed Tryz.checked) (TL_ok (k:=[]) trivial) 1000000 40 (runHonestD _ _ _) rfl σ
theorem runPickE0 (b28 b37 b85:Code):JL (TL₀ b28 b37 b85 []) (UI (TL₀ b28 b37 b85 []) 1000000 40) 1000000 [] 9 [drawE,.i 0] []=some (true,.tup [.cv .nils,.i 9],[]):=by kernel_rfl
theorem knPickE0 (σ:List AObj):AC Tryz.prog 9 [drawE,.i 0] σ fun r τ=>r=.tup [.cv .nils,.i 9]∧τ=σ:=AC_run (Checked.mixed Tryz.checked) (TL_ok (k:=[]) trivial) 1000000 40 (runPickE0 _ _ _) rfl σ
def knAwake:Kn:=[(10,[drawE],.tup [.cv (.rsl [.int .i64 2,.int .i64 3] 2),.i 0]),(26,[drawD],.tup [.i 3,.i 0]),(9,[drawD,.i 1],.tup [.cv (.rsl [.int .i64 2,.int .i64 1,.int .i64 0] 3),.i 0]),(28,[drawD,.cv (.rsl [.int .i64 2,.int .i64 1,.int .i64 0] 3)],.tup [.i 1,.i 0]),(30,[drawD,.cv (.rsl [.int .i64 152436061] 1),.cv (.rsl [.int .i64 0] 1),.cv (.rsl [.int .i64 2,.int .i64 1,.int .i64 0] 3)],.tup [.b true,.i 0]),(9,[drawE,.i 0],.tup [.cv .nils,.i 9])]
theorem knAwake_ok:KnOk Tryz.prog knAwake:=⟨⟨rfl,knShortE⟩,⟨rfl,knCountD⟩,⟨rfl,knPickD1⟩,⟨rfl,knIndexD⟩,⟨rfl,knHonestD⟩,⟨rfl,knPickE0⟩,trivial⟩
theorem runAwake (b28 b37 b85:Code):JL (TL₀ b28 b37 b85 knAwake) (UI (TL₀ b28 b37 b85 knAwake) 1000000 40) 1000000 [] 6 [] []=some (true,.b true,[]):=by kernel_rfl
theorem awake (σ:List AObj):AC Tryz.prog 6 [] σ fun r τ=>r=.b true∧τ=σ:=AC_run (Checked.mixed Tryz.checked) (TL_ok knAwake_ok) 1000000 40 (runAwake _ _ _) rfl σ
end Go.Proofs.YtpmokaefmcffaaaGreat.AM
