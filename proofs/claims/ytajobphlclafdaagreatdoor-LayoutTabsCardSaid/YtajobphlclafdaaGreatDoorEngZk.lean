import Derived.Test.YtajobphlclafdaaGreatDoorEngZj
set_option linter.unusedVariables false
set_option linter.unusedSimpArgs false
/-! The quick machine without its syntax: each instruction a function. -/
namespace Go.Abs
set_option linter.unusedVariables false
noncomputable section
abbrev GT := Tm → XV
abbrev OT := XF → Tm → Pb → Hp → K → R
abbrev IT := XF → Tm → Pb → Hp → KT → R
abbrev PT := XV → Tm → (Tm → R) → R
abbrev RT := Tm → Pb → Hp → (XV → R) → R
abbrev YT := XF → Nat → Nat → XF → XV → Pb → Hp → K → R
def T0 : GT := fun t => N16.g0 (N16.g0 t)
def S0 : XV → Tm → Tm := fun v t => N16.p0 (N16.p0 v (N16.g0 t)) t
def T1 : GT := fun t => N16.g1 (N16.g0 t)
def S1 : XV → Tm → Tm := fun v t => N16.p0 (N16.p1 v (N16.g0 t)) t
def T2 : GT := fun t => N16.g2 (N16.g0 t)
def S2 : XV → Tm → Tm := fun v t => N16.p0 (N16.p2 v (N16.g0 t)) t
def T3 : GT := fun t => N16.g3 (N16.g0 t)
def S3 : XV → Tm → Tm := fun v t => N16.p0 (N16.p3 v (N16.g0 t)) t
def T4 : GT := fun t => N16.g4 (N16.g0 t)
def S4 : XV → Tm → Tm := fun v t => N16.p0 (N16.p4 v (N16.g0 t)) t
def T5 : GT := fun t => N16.g5 (N16.g0 t)
def S5 : XV → Tm → Tm := fun v t => N16.p0 (N16.p5 v (N16.g0 t)) t
def T6 : GT := fun t => N16.g6 (N16.g0 t)
def S6 : XV → Tm → Tm := fun v t => N16.p0 (N16.p6 v (N16.g0 t)) t
def T7 : GT := fun t => N16.g7 (N16.g0 t)
def S7 : XV → Tm → Tm := fun v t => N16.p0 (N16.p7 v (N16.g0 t)) t
def T8 : GT := fun t => N16.g8 (N16.g0 t)
def S8 : XV → Tm → Tm := fun v t => N16.p0 (N16.p8 v (N16.g0 t)) t
def T9 : GT := fun t => N16.g9 (N16.g0 t)
def S9 : XV → Tm → Tm := fun v t => N16.p0 (N16.p9 v (N16.g0 t)) t
def T10 : GT := fun t => N16.g10 (N16.g0 t)
def S10 : XV → Tm → Tm := fun v t => N16.p0 (N16.p10 v (N16.g0 t)) t
def T11 : GT := fun t => N16.g11 (N16.g0 t)
def S11 : XV → Tm → Tm := fun v t => N16.p0 (N16.p11 v (N16.g0 t)) t
def T12 : GT := fun t => N16.g12 (N16.g0 t)
def S12 : XV → Tm → Tm := fun v t => N16.p0 (N16.p12 v (N16.g0 t)) t
def T13 : GT := fun t => N16.g13 (N16.g0 t)
def S13 : XV → Tm → Tm := fun v t => N16.p0 (N16.p13 v (N16.g0 t)) t
def T14 : GT := fun t => N16.g14 (N16.g0 t)
def S14 : XV → Tm → Tm := fun v t => N16.p0 (N16.p14 v (N16.g0 t)) t
def T15 : GT := fun t => N16.g15 (N16.g0 t)
def S15 : XV → Tm → Tm := fun v t => N16.p0 (N16.p15 v (N16.g0 t)) t
def T16 : GT := fun t => N16.g0 (N16.g1 t)
def S16 : XV → Tm → Tm := fun v t => N16.p1 (N16.p0 v (N16.g1 t)) t
def T17 : GT := fun t => N16.g1 (N16.g1 t)
def S17 : XV → Tm → Tm := fun v t => N16.p1 (N16.p1 v (N16.g1 t)) t
def T18 : GT := fun t => N16.g2 (N16.g1 t)
def S18 : XV → Tm → Tm := fun v t => N16.p1 (N16.p2 v (N16.g1 t)) t
def T19 : GT := fun t => N16.g3 (N16.g1 t)
def S19 : XV → Tm → Tm := fun v t => N16.p1 (N16.p3 v (N16.g1 t)) t
def T20 : GT := fun t => N16.g4 (N16.g1 t)
def S20 : XV → Tm → Tm := fun v t => N16.p1 (N16.p4 v (N16.g1 t)) t
def T21 : GT := fun t => N16.g5 (N16.g1 t)
def S21 : XV → Tm → Tm := fun v t => N16.p1 (N16.p5 v (N16.g1 t)) t
def T22 : GT := fun t => N16.g6 (N16.g1 t)
def S22 : XV → Tm → Tm := fun v t => N16.p1 (N16.p6 v (N16.g1 t)) t
def T23 : GT := fun t => N16.g7 (N16.g1 t)
def S23 : XV → Tm → Tm := fun v t => N16.p1 (N16.p7 v (N16.g1 t)) t
def T24 : GT := fun t => N16.g8 (N16.g1 t)
def S24 : XV → Tm → Tm := fun v t => N16.p1 (N16.p8 v (N16.g1 t)) t
def T25 : GT := fun t => N16.g9 (N16.g1 t)
def S25 : XV → Tm → Tm := fun v t => N16.p1 (N16.p9 v (N16.g1 t)) t
def T26 : GT := fun t => N16.g10 (N16.g1 t)
def S26 : XV → Tm → Tm := fun v t => N16.p1 (N16.p10 v (N16.g1 t)) t
def T27 : GT := fun t => N16.g11 (N16.g1 t)
def S27 : XV → Tm → Tm := fun v t => N16.p1 (N16.p11 v (N16.g1 t)) t
def T28 : GT := fun t => N16.g12 (N16.g1 t)
def S28 : XV → Tm → Tm := fun v t => N16.p1 (N16.p12 v (N16.g1 t)) t
def T29 : GT := fun t => N16.g13 (N16.g1 t)
def S29 : XV → Tm → Tm := fun v t => N16.p1 (N16.p13 v (N16.g1 t)) t
def T30 : GT := fun t => N16.g14 (N16.g1 t)
def S30 : XV → Tm → Tm := fun v t => N16.p1 (N16.p14 v (N16.g1 t)) t
def T31 : GT := fun t => N16.g15 (N16.g1 t)
def S31 : XV → Tm → Tm := fun v t => N16.p1 (N16.p15 v (N16.g1 t)) t
def T32 : GT := fun t => N16.g0 (N16.g2 t)
def S32 : XV → Tm → Tm := fun v t => N16.p2 (N16.p0 v (N16.g2 t)) t
def T33 : GT := fun t => N16.g1 (N16.g2 t)
def S33 : XV → Tm → Tm := fun v t => N16.p2 (N16.p1 v (N16.g2 t)) t
def T34 : GT := fun t => N16.g2 (N16.g2 t)
def S34 : XV → Tm → Tm := fun v t => N16.p2 (N16.p2 v (N16.g2 t)) t
def T35 : GT := fun t => N16.g3 (N16.g2 t)
def S35 : XV → Tm → Tm := fun v t => N16.p2 (N16.p3 v (N16.g2 t)) t
def T36 : GT := fun t => N16.g4 (N16.g2 t)
def S36 : XV → Tm → Tm := fun v t => N16.p2 (N16.p4 v (N16.g2 t)) t
def T37 : GT := fun t => N16.g5 (N16.g2 t)
def S37 : XV → Tm → Tm := fun v t => N16.p2 (N16.p5 v (N16.g2 t)) t
def T38 : GT := fun t => N16.g6 (N16.g2 t)
def S38 : XV → Tm → Tm := fun v t => N16.p2 (N16.p6 v (N16.g2 t)) t
def T39 : GT := fun t => N16.g7 (N16.g2 t)
def S39 : XV → Tm → Tm := fun v t => N16.p2 (N16.p7 v (N16.g2 t)) t
def T40 : GT := fun t => N16.g8 (N16.g2 t)
def S40 : XV → Tm → Tm := fun v t => N16.p2 (N16.p8 v (N16.g2 t)) t
def T41 : GT := fun t => N16.g9 (N16.g2 t)
def S41 : XV → Tm → Tm := fun v t => N16.p2 (N16.p9 v (N16.g2 t)) t
def T42 : GT := fun t => N16.g10 (N16.g2 t)
def S42 : XV → Tm → Tm := fun v t => N16.p2 (N16.p10 v (N16.g2 t)) t
def T43 : GT := fun t => N16.g11 (N16.g2 t)
def S43 : XV → Tm → Tm := fun v t => N16.p2 (N16.p11 v (N16.g2 t)) t
def T44 : GT := fun t => N16.g12 (N16.g2 t)
def S44 : XV → Tm → Tm := fun v t => N16.p2 (N16.p12 v (N16.g2 t)) t
def T45 : GT := fun t => N16.g13 (N16.g2 t)
def S45 : XV → Tm → Tm := fun v t => N16.p2 (N16.p13 v (N16.g2 t)) t
def T46 : GT := fun t => N16.g14 (N16.g2 t)
def S46 : XV → Tm → Tm := fun v t => N16.p2 (N16.p14 v (N16.g2 t)) t
def T47 : GT := fun t => N16.g15 (N16.g2 t)
def S47 : XV → Tm → Tm := fun v t => N16.p2 (N16.p15 v (N16.g2 t)) t
def T48 : GT := fun t => N16.g0 (N16.g3 t)
def S48 : XV → Tm → Tm := fun v t => N16.p3 (N16.p0 v (N16.g3 t)) t
def T49 : GT := fun t => N16.g1 (N16.g3 t)
def S49 : XV → Tm → Tm := fun v t => N16.p3 (N16.p1 v (N16.g3 t)) t
def T50 : GT := fun t => N16.g2 (N16.g3 t)
def S50 : XV → Tm → Tm := fun v t => N16.p3 (N16.p2 v (N16.g3 t)) t
def T51 : GT := fun t => N16.g3 (N16.g3 t)
def S51 : XV → Tm → Tm := fun v t => N16.p3 (N16.p3 v (N16.g3 t)) t
def T52 : GT := fun t => N16.g4 (N16.g3 t)
def S52 : XV → Tm → Tm := fun v t => N16.p3 (N16.p4 v (N16.g3 t)) t
def T53 : GT := fun t => N16.g5 (N16.g3 t)
def S53 : XV → Tm → Tm := fun v t => N16.p3 (N16.p5 v (N16.g3 t)) t
def T54 : GT := fun t => N16.g6 (N16.g3 t)
def S54 : XV → Tm → Tm := fun v t => N16.p3 (N16.p6 v (N16.g3 t)) t
def T55 : GT := fun t => N16.g7 (N16.g3 t)
def S55 : XV → Tm → Tm := fun v t => N16.p3 (N16.p7 v (N16.g3 t)) t
def T56 : GT := fun t => N16.g8 (N16.g3 t)
def S56 : XV → Tm → Tm := fun v t => N16.p3 (N16.p8 v (N16.g3 t)) t
def T57 : GT := fun t => N16.g9 (N16.g3 t)
def S57 : XV → Tm → Tm := fun v t => N16.p3 (N16.p9 v (N16.g3 t)) t
def T58 : GT := fun t => N16.g10 (N16.g3 t)
def S58 : XV → Tm → Tm := fun v t => N16.p3 (N16.p10 v (N16.g3 t)) t
def T59 : GT := fun t => N16.g11 (N16.g3 t)
def S59 : XV → Tm → Tm := fun v t => N16.p3 (N16.p11 v (N16.g3 t)) t
def T60 : GT := fun t => N16.g12 (N16.g3 t)
def S60 : XV → Tm → Tm := fun v t => N16.p3 (N16.p12 v (N16.g3 t)) t
def T61 : GT := fun t => N16.g13 (N16.g3 t)
def S61 : XV → Tm → Tm := fun v t => N16.p3 (N16.p13 v (N16.g3 t)) t
def T62 : GT := fun t => N16.g14 (N16.g3 t)
def S62 : XV → Tm → Tm := fun v t => N16.p3 (N16.p14 v (N16.g3 t)) t
def T63 : GT := fun t => N16.g15 (N16.g3 t)
def S63 : XV → Tm → Tm := fun v t => N16.p3 (N16.p15 v (N16.g3 t)) t
def T64 : GT := fun t => N16.g0 (N16.g4 t)
def S64 : XV → Tm → Tm := fun v t => N16.p4 (N16.p0 v (N16.g4 t)) t
def T65 : GT := fun t => N16.g1 (N16.g4 t)
def S65 : XV → Tm → Tm := fun v t => N16.p4 (N16.p1 v (N16.g4 t)) t
def T66 : GT := fun t => N16.g2 (N16.g4 t)
def S66 : XV → Tm → Tm := fun v t => N16.p4 (N16.p2 v (N16.g4 t)) t
def T67 : GT := fun t => N16.g3 (N16.g4 t)
def S67 : XV → Tm → Tm := fun v t => N16.p4 (N16.p3 v (N16.g4 t)) t
def T68 : GT := fun t => N16.g4 (N16.g4 t)
def S68 : XV → Tm → Tm := fun v t => N16.p4 (N16.p4 v (N16.g4 t)) t
def T69 : GT := fun t => N16.g5 (N16.g4 t)
def S69 : XV → Tm → Tm := fun v t => N16.p4 (N16.p5 v (N16.g4 t)) t
def T70 : GT := fun t => N16.g6 (N16.g4 t)
def S70 : XV → Tm → Tm := fun v t => N16.p4 (N16.p6 v (N16.g4 t)) t
def T71 : GT := fun t => N16.g7 (N16.g4 t)
def S71 : XV → Tm → Tm := fun v t => N16.p4 (N16.p7 v (N16.g4 t)) t
def T72 : GT := fun t => N16.g8 (N16.g4 t)
def S72 : XV → Tm → Tm := fun v t => N16.p4 (N16.p8 v (N16.g4 t)) t
def T73 : GT := fun t => N16.g9 (N16.g4 t)
def S73 : XV → Tm → Tm := fun v t => N16.p4 (N16.p9 v (N16.g4 t)) t
def T74 : GT := fun t => N16.g10 (N16.g4 t)
def S74 : XV → Tm → Tm := fun v t => N16.p4 (N16.p10 v (N16.g4 t)) t
def T75 : GT := fun t => N16.g11 (N16.g4 t)
def S75 : XV → Tm → Tm := fun v t => N16.p4 (N16.p11 v (N16.g4 t)) t
def T76 : GT := fun t => N16.g12 (N16.g4 t)
def S76 : XV → Tm → Tm := fun v t => N16.p4 (N16.p12 v (N16.g4 t)) t
def T77 : GT := fun t => N16.g13 (N16.g4 t)
def S77 : XV → Tm → Tm := fun v t => N16.p4 (N16.p13 v (N16.g4 t)) t
def T78 : GT := fun t => N16.g14 (N16.g4 t)
def S78 : XV → Tm → Tm := fun v t => N16.p4 (N16.p14 v (N16.g4 t)) t
def T79 : GT := fun t => N16.g15 (N16.g4 t)
def S79 : XV → Tm → Tm := fun v t => N16.p4 (N16.p15 v (N16.g4 t)) t
def T80 : GT := fun t => N16.g0 (N16.g5 t)
def S80 : XV → Tm → Tm := fun v t => N16.p5 (N16.p0 v (N16.g5 t)) t
def T81 : GT := fun t => N16.g1 (N16.g5 t)
def S81 : XV → Tm → Tm := fun v t => N16.p5 (N16.p1 v (N16.g5 t)) t
def T82 : GT := fun t => N16.g2 (N16.g5 t)
def S82 : XV → Tm → Tm := fun v t => N16.p5 (N16.p2 v (N16.g5 t)) t
def T83 : GT := fun t => N16.g3 (N16.g5 t)
def S83 : XV → Tm → Tm := fun v t => N16.p5 (N16.p3 v (N16.g5 t)) t
def T84 : GT := fun t => N16.g4 (N16.g5 t)
def S84 : XV → Tm → Tm := fun v t => N16.p5 (N16.p4 v (N16.g5 t)) t
def T85 : GT := fun t => N16.g5 (N16.g5 t)
def S85 : XV → Tm → Tm := fun v t => N16.p5 (N16.p5 v (N16.g5 t)) t
def T86 : GT := fun t => N16.g6 (N16.g5 t)
def S86 : XV → Tm → Tm := fun v t => N16.p5 (N16.p6 v (N16.g5 t)) t
def T87 : GT := fun t => N16.g7 (N16.g5 t)
def S87 : XV → Tm → Tm := fun v t => N16.p5 (N16.p7 v (N16.g5 t)) t
def T88 : GT := fun t => N16.g8 (N16.g5 t)
def S88 : XV → Tm → Tm := fun v t => N16.p5 (N16.p8 v (N16.g5 t)) t
def T89 : GT := fun t => N16.g9 (N16.g5 t)
def S89 : XV → Tm → Tm := fun v t => N16.p5 (N16.p9 v (N16.g5 t)) t
def T90 : GT := fun t => N16.g10 (N16.g5 t)
def S90 : XV → Tm → Tm := fun v t => N16.p5 (N16.p10 v (N16.g5 t)) t
def T91 : GT := fun t => N16.g11 (N16.g5 t)
def S91 : XV → Tm → Tm := fun v t => N16.p5 (N16.p11 v (N16.g5 t)) t
def T92 : GT := fun t => N16.g12 (N16.g5 t)
def S92 : XV → Tm → Tm := fun v t => N16.p5 (N16.p12 v (N16.g5 t)) t
def T93 : GT := fun t => N16.g13 (N16.g5 t)
def S93 : XV → Tm → Tm := fun v t => N16.p5 (N16.p13 v (N16.g5 t)) t
def T94 : GT := fun t => N16.g14 (N16.g5 t)
def S94 : XV → Tm → Tm := fun v t => N16.p5 (N16.p14 v (N16.g5 t)) t
def T95 : GT := fun t => N16.g15 (N16.g5 t)
def S95 : XV → Tm → Tm := fun v t => N16.p5 (N16.p15 v (N16.g5 t)) t
def T96 : GT := fun t => N16.g0 (N16.g6 t)
def S96 : XV → Tm → Tm := fun v t => N16.p6 (N16.p0 v (N16.g6 t)) t
def T97 : GT := fun t => N16.g1 (N16.g6 t)
def S97 : XV → Tm → Tm := fun v t => N16.p6 (N16.p1 v (N16.g6 t)) t
def T98 : GT := fun t => N16.g2 (N16.g6 t)
def S98 : XV → Tm → Tm := fun v t => N16.p6 (N16.p2 v (N16.g6 t)) t
def T99 : GT := fun t => N16.g3 (N16.g6 t)
def S99 : XV → Tm → Tm := fun v t => N16.p6 (N16.p3 v (N16.g6 t)) t
def T100 : GT := fun t => N16.g4 (N16.g6 t)
def S100 : XV → Tm → Tm := fun v t => N16.p6 (N16.p4 v (N16.g6 t)) t
def T101 : GT := fun t => N16.g5 (N16.g6 t)
def S101 : XV → Tm → Tm := fun v t => N16.p6 (N16.p5 v (N16.g6 t)) t
def T102 : GT := fun t => N16.g6 (N16.g6 t)
def S102 : XV → Tm → Tm := fun v t => N16.p6 (N16.p6 v (N16.g6 t)) t
def T103 : GT := fun t => N16.g7 (N16.g6 t)
def S103 : XV → Tm → Tm := fun v t => N16.p6 (N16.p7 v (N16.g6 t)) t
def T104 : GT := fun t => N16.g8 (N16.g6 t)
def S104 : XV → Tm → Tm := fun v t => N16.p6 (N16.p8 v (N16.g6 t)) t
def T105 : GT := fun t => N16.g9 (N16.g6 t)
def S105 : XV → Tm → Tm := fun v t => N16.p6 (N16.p9 v (N16.g6 t)) t
def T106 : GT := fun t => N16.g10 (N16.g6 t)
def S106 : XV → Tm → Tm := fun v t => N16.p6 (N16.p10 v (N16.g6 t)) t
def T107 : GT := fun t => N16.g11 (N16.g6 t)
def S107 : XV → Tm → Tm := fun v t => N16.p6 (N16.p11 v (N16.g6 t)) t
def T108 : GT := fun t => N16.g12 (N16.g6 t)
def S108 : XV → Tm → Tm := fun v t => N16.p6 (N16.p12 v (N16.g6 t)) t
def T109 : GT := fun t => N16.g13 (N16.g6 t)
def S109 : XV → Tm → Tm := fun v t => N16.p6 (N16.p13 v (N16.g6 t)) t
def T110 : GT := fun t => N16.g14 (N16.g6 t)
def S110 : XV → Tm → Tm := fun v t => N16.p6 (N16.p14 v (N16.g6 t)) t
def T111 : GT := fun t => N16.g15 (N16.g6 t)
def S111 : XV → Tm → Tm := fun v t => N16.p6 (N16.p15 v (N16.g6 t)) t
def T112 : GT := fun t => N16.g0 (N16.g7 t)
def S112 : XV → Tm → Tm := fun v t => N16.p7 (N16.p0 v (N16.g7 t)) t
def T113 : GT := fun t => N16.g1 (N16.g7 t)
def S113 : XV → Tm → Tm := fun v t => N16.p7 (N16.p1 v (N16.g7 t)) t
def T114 : GT := fun t => N16.g2 (N16.g7 t)
def S114 : XV → Tm → Tm := fun v t => N16.p7 (N16.p2 v (N16.g7 t)) t
def T115 : GT := fun t => N16.g3 (N16.g7 t)
def S115 : XV → Tm → Tm := fun v t => N16.p7 (N16.p3 v (N16.g7 t)) t
def T116 : GT := fun t => N16.g4 (N16.g7 t)
def S116 : XV → Tm → Tm := fun v t => N16.p7 (N16.p4 v (N16.g7 t)) t
def T117 : GT := fun t => N16.g5 (N16.g7 t)
def S117 : XV → Tm → Tm := fun v t => N16.p7 (N16.p5 v (N16.g7 t)) t
def T118 : GT := fun t => N16.g6 (N16.g7 t)
def S118 : XV → Tm → Tm := fun v t => N16.p7 (N16.p6 v (N16.g7 t)) t
def T119 : GT := fun t => N16.g7 (N16.g7 t)
def S119 : XV → Tm → Tm := fun v t => N16.p7 (N16.p7 v (N16.g7 t)) t
def T120 : GT := fun t => N16.g8 (N16.g7 t)
def S120 : XV → Tm → Tm := fun v t => N16.p7 (N16.p8 v (N16.g7 t)) t
def T121 : GT := fun t => N16.g9 (N16.g7 t)
def S121 : XV → Tm → Tm := fun v t => N16.p7 (N16.p9 v (N16.g7 t)) t
def T122 : GT := fun t => N16.g10 (N16.g7 t)
def S122 : XV → Tm → Tm := fun v t => N16.p7 (N16.p10 v (N16.g7 t)) t
def T123 : GT := fun t => N16.g11 (N16.g7 t)
def S123 : XV → Tm → Tm := fun v t => N16.p7 (N16.p11 v (N16.g7 t)) t
def T124 : GT := fun t => N16.g12 (N16.g7 t)
def S124 : XV → Tm → Tm := fun v t => N16.p7 (N16.p12 v (N16.g7 t)) t
def T125 : GT := fun t => N16.g13 (N16.g7 t)
def S125 : XV → Tm → Tm := fun v t => N16.p7 (N16.p13 v (N16.g7 t)) t
def T126 : GT := fun t => N16.g14 (N16.g7 t)
def S126 : XV → Tm → Tm := fun v t => N16.p7 (N16.p14 v (N16.g7 t)) t
def T127 : GT := fun t => N16.g15 (N16.g7 t)
def S127 : XV → Tm → Tm := fun v t => N16.p7 (N16.p15 v (N16.g7 t)) t
def T128 : GT := fun t => N16.g0 (N16.g8 t)
def S128 : XV → Tm → Tm := fun v t => N16.p8 (N16.p0 v (N16.g8 t)) t
def T129 : GT := fun t => N16.g1 (N16.g8 t)
def S129 : XV → Tm → Tm := fun v t => N16.p8 (N16.p1 v (N16.g8 t)) t
def T130 : GT := fun t => N16.g2 (N16.g8 t)
def S130 : XV → Tm → Tm := fun v t => N16.p8 (N16.p2 v (N16.g8 t)) t
def T131 : GT := fun t => N16.g3 (N16.g8 t)
def S131 : XV → Tm → Tm := fun v t => N16.p8 (N16.p3 v (N16.g8 t)) t
def T132 : GT := fun t => N16.g4 (N16.g8 t)
def S132 : XV → Tm → Tm := fun v t => N16.p8 (N16.p4 v (N16.g8 t)) t
def T133 : GT := fun t => N16.g5 (N16.g8 t)
def S133 : XV → Tm → Tm := fun v t => N16.p8 (N16.p5 v (N16.g8 t)) t
def T134 : GT := fun t => N16.g6 (N16.g8 t)
def S134 : XV → Tm → Tm := fun v t => N16.p8 (N16.p6 v (N16.g8 t)) t
def T135 : GT := fun t => N16.g7 (N16.g8 t)
def S135 : XV → Tm → Tm := fun v t => N16.p8 (N16.p7 v (N16.g8 t)) t
def T136 : GT := fun t => N16.g8 (N16.g8 t)
def S136 : XV → Tm → Tm := fun v t => N16.p8 (N16.p8 v (N16.g8 t)) t
def T137 : GT := fun t => N16.g9 (N16.g8 t)
def S137 : XV → Tm → Tm := fun v t => N16.p8 (N16.p9 v (N16.g8 t)) t
def T138 : GT := fun t => N16.g10 (N16.g8 t)
def S138 : XV → Tm → Tm := fun v t => N16.p8 (N16.p10 v (N16.g8 t)) t
def T139 : GT := fun t => N16.g11 (N16.g8 t)
def S139 : XV → Tm → Tm := fun v t => N16.p8 (N16.p11 v (N16.g8 t)) t
def T140 : GT := fun t => N16.g12 (N16.g8 t)
def S140 : XV → Tm → Tm := fun v t => N16.p8 (N16.p12 v (N16.g8 t)) t
def T141 : GT := fun t => N16.g13 (N16.g8 t)
def S141 : XV → Tm → Tm := fun v t => N16.p8 (N16.p13 v (N16.g8 t)) t
def T142 : GT := fun t => N16.g14 (N16.g8 t)
def S142 : XV → Tm → Tm := fun v t => N16.p8 (N16.p14 v (N16.g8 t)) t
def T143 : GT := fun t => N16.g15 (N16.g8 t)
def S143 : XV → Tm → Tm := fun v t => N16.p8 (N16.p15 v (N16.g8 t)) t
def T144 : GT := fun t => N16.g0 (N16.g9 t)
def S144 : XV → Tm → Tm := fun v t => N16.p9 (N16.p0 v (N16.g9 t)) t
def T145 : GT := fun t => N16.g1 (N16.g9 t)
def S145 : XV → Tm → Tm := fun v t => N16.p9 (N16.p1 v (N16.g9 t)) t
def T146 : GT := fun t => N16.g2 (N16.g9 t)
def S146 : XV → Tm → Tm := fun v t => N16.p9 (N16.p2 v (N16.g9 t)) t
def T147 : GT := fun t => N16.g3 (N16.g9 t)
def S147 : XV → Tm → Tm := fun v t => N16.p9 (N16.p3 v (N16.g9 t)) t
def T148 : GT := fun t => N16.g4 (N16.g9 t)
def S148 : XV → Tm → Tm := fun v t => N16.p9 (N16.p4 v (N16.g9 t)) t
def T149 : GT := fun t => N16.g5 (N16.g9 t)
def S149 : XV → Tm → Tm := fun v t => N16.p9 (N16.p5 v (N16.g9 t)) t
def T150 : GT := fun t => N16.g6 (N16.g9 t)
def S150 : XV → Tm → Tm := fun v t => N16.p9 (N16.p6 v (N16.g9 t)) t
def T151 : GT := fun t => N16.g7 (N16.g9 t)
def S151 : XV → Tm → Tm := fun v t => N16.p9 (N16.p7 v (N16.g9 t)) t
def T152 : GT := fun t => N16.g8 (N16.g9 t)
def S152 : XV → Tm → Tm := fun v t => N16.p9 (N16.p8 v (N16.g9 t)) t
def T153 : GT := fun t => N16.g9 (N16.g9 t)
def S153 : XV → Tm → Tm := fun v t => N16.p9 (N16.p9 v (N16.g9 t)) t
def T154 : GT := fun t => N16.g10 (N16.g9 t)
def S154 : XV → Tm → Tm := fun v t => N16.p9 (N16.p10 v (N16.g9 t)) t
def T155 : GT := fun t => N16.g11 (N16.g9 t)
def S155 : XV → Tm → Tm := fun v t => N16.p9 (N16.p11 v (N16.g9 t)) t
def T156 : GT := fun t => N16.g12 (N16.g9 t)
def S156 : XV → Tm → Tm := fun v t => N16.p9 (N16.p12 v (N16.g9 t)) t
def T157 : GT := fun t => N16.g13 (N16.g9 t)
def S157 : XV → Tm → Tm := fun v t => N16.p9 (N16.p13 v (N16.g9 t)) t
def T158 : GT := fun t => N16.g14 (N16.g9 t)
def S158 : XV → Tm → Tm := fun v t => N16.p9 (N16.p14 v (N16.g9 t)) t
def T159 : GT := fun t => N16.g15 (N16.g9 t)
def S159 : XV → Tm → Tm := fun v t => N16.p9 (N16.p15 v (N16.g9 t)) t
def T160 : GT := fun t => N16.g0 (N16.g10 t)
def S160 : XV → Tm → Tm := fun v t => N16.p10 (N16.p0 v (N16.g10 t)) t
def T161 : GT := fun t => N16.g1 (N16.g10 t)
def S161 : XV → Tm → Tm := fun v t => N16.p10 (N16.p1 v (N16.g10 t)) t
def T162 : GT := fun t => N16.g2 (N16.g10 t)
def S162 : XV → Tm → Tm := fun v t => N16.p10 (N16.p2 v (N16.g10 t)) t
def T163 : GT := fun t => N16.g3 (N16.g10 t)
def S163 : XV → Tm → Tm := fun v t => N16.p10 (N16.p3 v (N16.g10 t)) t
def T164 : GT := fun t => N16.g4 (N16.g10 t)
def S164 : XV → Tm → Tm := fun v t => N16.p10 (N16.p4 v (N16.g10 t)) t
def T165 : GT := fun t => N16.g5 (N16.g10 t)
def S165 : XV → Tm → Tm := fun v t => N16.p10 (N16.p5 v (N16.g10 t)) t
def T166 : GT := fun t => N16.g6 (N16.g10 t)
def S166 : XV → Tm → Tm := fun v t => N16.p10 (N16.p6 v (N16.g10 t)) t
def T167 : GT := fun t => N16.g7 (N16.g10 t)
def S167 : XV → Tm → Tm := fun v t => N16.p10 (N16.p7 v (N16.g10 t)) t
def T168 : GT := fun t => N16.g8 (N16.g10 t)
def S168 : XV → Tm → Tm := fun v t => N16.p10 (N16.p8 v (N16.g10 t)) t
def T169 : GT := fun t => N16.g9 (N16.g10 t)
def S169 : XV → Tm → Tm := fun v t => N16.p10 (N16.p9 v (N16.g10 t)) t
def T170 : GT := fun t => N16.g10 (N16.g10 t)
def S170 : XV → Tm → Tm := fun v t => N16.p10 (N16.p10 v (N16.g10 t)) t
def T171 : GT := fun t => N16.g11 (N16.g10 t)
def S171 : XV → Tm → Tm := fun v t => N16.p10 (N16.p11 v (N16.g10 t)) t
def T172 : GT := fun t => N16.g12 (N16.g10 t)
def S172 : XV → Tm → Tm := fun v t => N16.p10 (N16.p12 v (N16.g10 t)) t
def T173 : GT := fun t => N16.g13 (N16.g10 t)
def S173 : XV → Tm → Tm := fun v t => N16.p10 (N16.p13 v (N16.g10 t)) t
def T174 : GT := fun t => N16.g14 (N16.g10 t)
def S174 : XV → Tm → Tm := fun v t => N16.p10 (N16.p14 v (N16.g10 t)) t
def T175 : GT := fun t => N16.g15 (N16.g10 t)
def S175 : XV → Tm → Tm := fun v t => N16.p10 (N16.p15 v (N16.g10 t)) t
def T176 : GT := fun t => N16.g0 (N16.g11 t)
def S176 : XV → Tm → Tm := fun v t => N16.p11 (N16.p0 v (N16.g11 t)) t
def T177 : GT := fun t => N16.g1 (N16.g11 t)
def S177 : XV → Tm → Tm := fun v t => N16.p11 (N16.p1 v (N16.g11 t)) t
def T178 : GT := fun t => N16.g2 (N16.g11 t)
def S178 : XV → Tm → Tm := fun v t => N16.p11 (N16.p2 v (N16.g11 t)) t
def T179 : GT := fun t => N16.g3 (N16.g11 t)
def S179 : XV → Tm → Tm := fun v t => N16.p11 (N16.p3 v (N16.g11 t)) t
def T180 : GT := fun t => N16.g4 (N16.g11 t)
def S180 : XV → Tm → Tm := fun v t => N16.p11 (N16.p4 v (N16.g11 t)) t
def T181 : GT := fun t => N16.g5 (N16.g11 t)
def S181 : XV → Tm → Tm := fun v t => N16.p11 (N16.p5 v (N16.g11 t)) t
def T182 : GT := fun t => N16.g6 (N16.g11 t)
def S182 : XV → Tm → Tm := fun v t => N16.p11 (N16.p6 v (N16.g11 t)) t
def T183 : GT := fun t => N16.g7 (N16.g11 t)
def S183 : XV → Tm → Tm := fun v t => N16.p11 (N16.p7 v (N16.g11 t)) t
def T184 : GT := fun t => N16.g8 (N16.g11 t)
def S184 : XV → Tm → Tm := fun v t => N16.p11 (N16.p8 v (N16.g11 t)) t
def T185 : GT := fun t => N16.g9 (N16.g11 t)
def S185 : XV → Tm → Tm := fun v t => N16.p11 (N16.p9 v (N16.g11 t)) t
def T186 : GT := fun t => N16.g10 (N16.g11 t)
def S186 : XV → Tm → Tm := fun v t => N16.p11 (N16.p10 v (N16.g11 t)) t
def T187 : GT := fun t => N16.g11 (N16.g11 t)
def S187 : XV → Tm → Tm := fun v t => N16.p11 (N16.p11 v (N16.g11 t)) t
def T188 : GT := fun t => N16.g12 (N16.g11 t)
def S188 : XV → Tm → Tm := fun v t => N16.p11 (N16.p12 v (N16.g11 t)) t
def T189 : GT := fun t => N16.g13 (N16.g11 t)
def S189 : XV → Tm → Tm := fun v t => N16.p11 (N16.p13 v (N16.g11 t)) t
def T190 : GT := fun t => N16.g14 (N16.g11 t)
def S190 : XV → Tm → Tm := fun v t => N16.p11 (N16.p14 v (N16.g11 t)) t
def T191 : GT := fun t => N16.g15 (N16.g11 t)
def S191 : XV → Tm → Tm := fun v t => N16.p11 (N16.p15 v (N16.g11 t)) t
def T192 : GT := fun t => N16.g0 (N16.g12 t)
def S192 : XV → Tm → Tm := fun v t => N16.p12 (N16.p0 v (N16.g12 t)) t
def T193 : GT := fun t => N16.g1 (N16.g12 t)
def S193 : XV → Tm → Tm := fun v t => N16.p12 (N16.p1 v (N16.g12 t)) t
def T194 : GT := fun t => N16.g2 (N16.g12 t)
def S194 : XV → Tm → Tm := fun v t => N16.p12 (N16.p2 v (N16.g12 t)) t
def T195 : GT := fun t => N16.g3 (N16.g12 t)
def S195 : XV → Tm → Tm := fun v t => N16.p12 (N16.p3 v (N16.g12 t)) t
def T196 : GT := fun t => N16.g4 (N16.g12 t)
def S196 : XV → Tm → Tm := fun v t => N16.p12 (N16.p4 v (N16.g12 t)) t
def T197 : GT := fun t => N16.g5 (N16.g12 t)
def S197 : XV → Tm → Tm := fun v t => N16.p12 (N16.p5 v (N16.g12 t)) t
def T198 : GT := fun t => N16.g6 (N16.g12 t)
def S198 : XV → Tm → Tm := fun v t => N16.p12 (N16.p6 v (N16.g12 t)) t
def T199 : GT := fun t => N16.g7 (N16.g12 t)
def S199 : XV → Tm → Tm := fun v t => N16.p12 (N16.p7 v (N16.g12 t)) t
def T200 : GT := fun t => N16.g8 (N16.g12 t)
def S200 : XV → Tm → Tm := fun v t => N16.p12 (N16.p8 v (N16.g12 t)) t
def T201 : GT := fun t => N16.g9 (N16.g12 t)
def S201 : XV → Tm → Tm := fun v t => N16.p12 (N16.p9 v (N16.g12 t)) t
def T202 : GT := fun t => N16.g10 (N16.g12 t)
def S202 : XV → Tm → Tm := fun v t => N16.p12 (N16.p10 v (N16.g12 t)) t
def T203 : GT := fun t => N16.g11 (N16.g12 t)
def S203 : XV → Tm → Tm := fun v t => N16.p12 (N16.p11 v (N16.g12 t)) t
def T204 : GT := fun t => N16.g12 (N16.g12 t)
def S204 : XV → Tm → Tm := fun v t => N16.p12 (N16.p12 v (N16.g12 t)) t
def T205 : GT := fun t => N16.g13 (N16.g12 t)
def S205 : XV → Tm → Tm := fun v t => N16.p12 (N16.p13 v (N16.g12 t)) t
def T206 : GT := fun t => N16.g14 (N16.g12 t)
def S206 : XV → Tm → Tm := fun v t => N16.p12 (N16.p14 v (N16.g12 t)) t
def T207 : GT := fun t => N16.g15 (N16.g12 t)
def S207 : XV → Tm → Tm := fun v t => N16.p12 (N16.p15 v (N16.g12 t)) t
def T208 : GT := fun t => N16.g0 (N16.g13 t)
def S208 : XV → Tm → Tm := fun v t => N16.p13 (N16.p0 v (N16.g13 t)) t
def T209 : GT := fun t => N16.g1 (N16.g13 t)
def S209 : XV → Tm → Tm := fun v t => N16.p13 (N16.p1 v (N16.g13 t)) t
def T210 : GT := fun t => N16.g2 (N16.g13 t)
def S210 : XV → Tm → Tm := fun v t => N16.p13 (N16.p2 v (N16.g13 t)) t
def T211 : GT := fun t => N16.g3 (N16.g13 t)
def S211 : XV → Tm → Tm := fun v t => N16.p13 (N16.p3 v (N16.g13 t)) t
def T212 : GT := fun t => N16.g4 (N16.g13 t)
def S212 : XV → Tm → Tm := fun v t => N16.p13 (N16.p4 v (N16.g13 t)) t
def T213 : GT := fun t => N16.g5 (N16.g13 t)
def S213 : XV → Tm → Tm := fun v t => N16.p13 (N16.p5 v (N16.g13 t)) t
def T214 : GT := fun t => N16.g6 (N16.g13 t)
def S214 : XV → Tm → Tm := fun v t => N16.p13 (N16.p6 v (N16.g13 t)) t
def T215 : GT := fun t => N16.g7 (N16.g13 t)
def S215 : XV → Tm → Tm := fun v t => N16.p13 (N16.p7 v (N16.g13 t)) t
def T216 : GT := fun t => N16.g8 (N16.g13 t)
def S216 : XV → Tm → Tm := fun v t => N16.p13 (N16.p8 v (N16.g13 t)) t
def T217 : GT := fun t => N16.g9 (N16.g13 t)
def S217 : XV → Tm → Tm := fun v t => N16.p13 (N16.p9 v (N16.g13 t)) t
def T218 : GT := fun t => N16.g10 (N16.g13 t)
def S218 : XV → Tm → Tm := fun v t => N16.p13 (N16.p10 v (N16.g13 t)) t
def T219 : GT := fun t => N16.g11 (N16.g13 t)
def S219 : XV → Tm → Tm := fun v t => N16.p13 (N16.p11 v (N16.g13 t)) t
def T220 : GT := fun t => N16.g12 (N16.g13 t)
def S220 : XV → Tm → Tm := fun v t => N16.p13 (N16.p12 v (N16.g13 t)) t
def T221 : GT := fun t => N16.g13 (N16.g13 t)
def S221 : XV → Tm → Tm := fun v t => N16.p13 (N16.p13 v (N16.g13 t)) t
def T222 : GT := fun t => N16.g14 (N16.g13 t)
def S222 : XV → Tm → Tm := fun v t => N16.p13 (N16.p14 v (N16.g13 t)) t
def T223 : GT := fun t => N16.g15 (N16.g13 t)
def S223 : XV → Tm → Tm := fun v t => N16.p13 (N16.p15 v (N16.g13 t)) t
def T224 : GT := fun t => N16.g0 (N16.g14 t)
def S224 : XV → Tm → Tm := fun v t => N16.p14 (N16.p0 v (N16.g14 t)) t
def T225 : GT := fun t => N16.g1 (N16.g14 t)
def S225 : XV → Tm → Tm := fun v t => N16.p14 (N16.p1 v (N16.g14 t)) t
def T226 : GT := fun t => N16.g2 (N16.g14 t)
def S226 : XV → Tm → Tm := fun v t => N16.p14 (N16.p2 v (N16.g14 t)) t
def T227 : GT := fun t => N16.g3 (N16.g14 t)
def S227 : XV → Tm → Tm := fun v t => N16.p14 (N16.p3 v (N16.g14 t)) t
def T228 : GT := fun t => N16.g4 (N16.g14 t)
def S228 : XV → Tm → Tm := fun v t => N16.p14 (N16.p4 v (N16.g14 t)) t
def T229 : GT := fun t => N16.g5 (N16.g14 t)
def S229 : XV → Tm → Tm := fun v t => N16.p14 (N16.p5 v (N16.g14 t)) t
def T230 : GT := fun t => N16.g6 (N16.g14 t)
def S230 : XV → Tm → Tm := fun v t => N16.p14 (N16.p6 v (N16.g14 t)) t
def T231 : GT := fun t => N16.g7 (N16.g14 t)
def S231 : XV → Tm → Tm := fun v t => N16.p14 (N16.p7 v (N16.g14 t)) t
def T232 : GT := fun t => N16.g8 (N16.g14 t)
def S232 : XV → Tm → Tm := fun v t => N16.p14 (N16.p8 v (N16.g14 t)) t
def T233 : GT := fun t => N16.g9 (N16.g14 t)
def S233 : XV → Tm → Tm := fun v t => N16.p14 (N16.p9 v (N16.g14 t)) t
def T234 : GT := fun t => N16.g10 (N16.g14 t)
def S234 : XV → Tm → Tm := fun v t => N16.p14 (N16.p10 v (N16.g14 t)) t
def T235 : GT := fun t => N16.g11 (N16.g14 t)
def S235 : XV → Tm → Tm := fun v t => N16.p14 (N16.p11 v (N16.g14 t)) t
def T236 : GT := fun t => N16.g12 (N16.g14 t)
def S236 : XV → Tm → Tm := fun v t => N16.p14 (N16.p12 v (N16.g14 t)) t
def T237 : GT := fun t => N16.g13 (N16.g14 t)
def S237 : XV → Tm → Tm := fun v t => N16.p14 (N16.p13 v (N16.g14 t)) t
def T238 : GT := fun t => N16.g14 (N16.g14 t)
def S238 : XV → Tm → Tm := fun v t => N16.p14 (N16.p14 v (N16.g14 t)) t
def T239 : GT := fun t => N16.g15 (N16.g14 t)
def S239 : XV → Tm → Tm := fun v t => N16.p14 (N16.p15 v (N16.g14 t)) t
def T240 : GT := fun t => N16.g0 (N16.g15 t)
def S240 : XV → Tm → Tm := fun v t => N16.p15 (N16.p0 v (N16.g15 t)) t
def T241 : GT := fun t => N16.g1 (N16.g15 t)
def S241 : XV → Tm → Tm := fun v t => N16.p15 (N16.p1 v (N16.g15 t)) t
def T242 : GT := fun t => N16.g2 (N16.g15 t)
def S242 : XV → Tm → Tm := fun v t => N16.p15 (N16.p2 v (N16.g15 t)) t
def T243 : GT := fun t => N16.g3 (N16.g15 t)
def S243 : XV → Tm → Tm := fun v t => N16.p15 (N16.p3 v (N16.g15 t)) t
def T244 : GT := fun t => N16.g4 (N16.g15 t)
def S244 : XV → Tm → Tm := fun v t => N16.p15 (N16.p4 v (N16.g15 t)) t
def T245 : GT := fun t => N16.g5 (N16.g15 t)
def S245 : XV → Tm → Tm := fun v t => N16.p15 (N16.p5 v (N16.g15 t)) t
def T246 : GT := fun t => N16.g6 (N16.g15 t)
def S246 : XV → Tm → Tm := fun v t => N16.p15 (N16.p6 v (N16.g15 t)) t
def T247 : GT := fun t => N16.g7 (N16.g15 t)
def S247 : XV → Tm → Tm := fun v t => N16.p15 (N16.p7 v (N16.g15 t)) t
def T248 : GT := fun t => N16.g8 (N16.g15 t)
def S248 : XV → Tm → Tm := fun v t => N16.p15 (N16.p8 v (N16.g15 t)) t
def T249 : GT := fun t => N16.g9 (N16.g15 t)
def S249 : XV → Tm → Tm := fun v t => N16.p15 (N16.p9 v (N16.g15 t)) t
def T250 : GT := fun t => N16.g10 (N16.g15 t)
def S250 : XV → Tm → Tm := fun v t => N16.p15 (N16.p10 v (N16.g15 t)) t
def T251 : GT := fun t => N16.g11 (N16.g15 t)
def S251 : XV → Tm → Tm := fun v t => N16.p15 (N16.p11 v (N16.g15 t)) t
def T252 : GT := fun t => N16.g12 (N16.g15 t)
def S252 : XV → Tm → Tm := fun v t => N16.p15 (N16.p12 v (N16.g15 t)) t
def T253 : GT := fun t => N16.g13 (N16.g15 t)
def S253 : XV → Tm → Tm := fun v t => N16.p15 (N16.p13 v (N16.g15 t)) t
def T254 : GT := fun t => N16.g14 (N16.g15 t)
def S254 : XV → Tm → Tm := fun v t => N16.p15 (N16.p14 v (N16.g15 t)) t
def T255 : GT := fun t => N16.g15 (N16.g15 t)
def S255 : XV → Tm → Tm := fun v t => N16.p15 (N16.p15 v (N16.g15 t)) t
def Kc (v : XV) : GT := fun _ => v
def Bt (g : GT) : GT := fun t => nonil (g t)
def Bk (v : XV) : GT := fun _ => nonil v
def Bn : GT := fun _ => .nil
def Ln : GT := fun _ => .nil
def Lc (x l : GT) : GT := fun t => .cons (x t) (l t)
abbrev QT := Tm → XV → (XV → R) → R
def Qn : QT := fun _ m k => k m
def Qc (off size : Nat) (x : GT) (l : QT) : QT := fun t m k => xvc (x t) (fun v => Bool.rec none (l t (lputL v off m) k) (Nat.beq (llen v) size))
abbrev WT := Tm → Ce → (Ce → R) → R
def Wn : WT := fun _ ce k => k ce
def Wc (off size : Nat) (x : GT) (l : WT) : WT := fun t ce k => xvc (x t) (fun v => Bool.rec none (wrL v off ce (fun ce => l t ce k)) (Nat.beq (llen v) size))
def Omv (x : GT) : OT := fun _ t n h k => k (x t) n h
def Opk (c a b : GT) : OT := fun _ t n h k => xpick (c t) (a t) (b t) n h k
def Oalloc (o : Ob) : OT := fun _ t n h k => newO (.p n 0) o n h k
def Obox (e : Nat) (x : GT) : OT := fun _ t n h k => xbox (x t) e n h k
def Obuild (m : XV) (l : QT) : OT := fun _ t n h k => l t m (fun m => k (.ag m) n h)
def ObuildSl (e z c len : Nat) (ce : Ce) (l : WT) : OT := fun _ t n h k => l t ce (fun ce => newO (.sl n 0 c z) (.ob len ce e .var) n h k)
def Oload1 (a : GT) : OT := fun _ t n h k => xload1 (a t) n h k
def OloadN (c : Nat) (a : GT) : OT := fun _ t n h k => xloadN (a t) c n h k
def Ostore1 (a x : GT) : OT := fun _ t n h k => xstore1 (a t) (x t) n h k
def OstoreN (c : Nat) (a x : GT) : OT := fun _ t n h k => xstoreN (a t) c (x t) n h k
def OnilCheck (x : GT) : OT := fun _ t n h k => xnil (x t) n h k
def Obin (o : BinOp) (x y : GT) : OT := fun _ t n h k => xbin (x t) (y t) o n h k
def Oeq (ng : Bool) (e : EqTy) (x y : GT) : OT := fun _ t n h k => xeq (x t) (y t) e ng n h k
def Oun (o : UnOp) (x : GT) : OT := fun _ t n h k => xun (x t) o n h k
def OconvInt (q : IntKind) (x : GT) : OT := fun _ t n h k => xconv (x t) q n h k
def OmakeFn (f : Nat) (a c : GT) : OT := fun _ t n h k => k (.fn f (a t) (c t)) n h
def OcutStr (x lo hi : GT) : OT := fun _ t n h k => xcutStr (x t) (lo t) (hi t) n h k
def OcutSl (z : Nat) (x lo hi : GT) : OT := fun _ t n h k => xcutSl (x t) z (lo t) (hi t) n h k
def Oshift (z : Nat) (x : GT) : OT := fun _ t n h k => xshift (x t) z n h k
def Ofield1 (z : Nat) (x : GT) : OT := fun _ t n h k => xf1 (x t) z n h k
def OfieldN (z c : Nat) (x : GT) : OT := fun _ t n h k => xfN (x t) z c n h k
def OidxAddr (z : Nat) (x i : GT) : OT := fun _ t n h k => xidx (x t) (i t) z n h k
def OidxStr (x i : GT) : OT := fun _ t n h k => xidxS (x t) (i t) n h k
def Orange (x : GT) : OT := fun _ t n h k => xrange (x t) n h k
def Onext (x : GT) : OT := fun _ t n h k => xnext (x t) n h k
def Oextract (x : GT) (z : Nat) : OT := fun _ t n h k => xext (x t) z n h k
def Olen (y : LenTy) (x : GT) : OT := fun _ t n h k => xlen (x t) y n h k
def Oappend (e z u : Nat) (s x : GT) : OT := fun _ t n h k => xappend (s t) (x t) e z u n h k
def Ocopy (z : Nat) (d x : GT) : OT := fun _ t n h k => xcopy (d t) (x t) z n h k
def Ominmax (mx : Bool) (x y : GT) : OT := fun _ t n h k => xmm (x t) (y t) mx n h k
def OmakeSl (e z u : Nat) (zs : XV) (l c : GT) : OT := fun _ t n h k => xmakeSl (l t) (c t) e z u zs n h k
def OidxArr (len z : Nat) (x i : GT) : OT := fun _ t n h k => xidxA (x t) (i t) len z n h k
def Ocall (f a : GT) : OT := fun F t n h k => xcl (f t) F (a t) n h k
def Ofun (f : Nat) (a : GT) : OT := fun F t n h k => F f (a t) n h k
def Obad : OT := fun _ _ _ _ _ => none
def Iset (s : XV → Tm → Tm) (o : OT) : IT := fun F t n h k => o F t n h (fun v n h => k (s v t) n h)
def Imv (s : XV → Tm → Tm) (x : GT) : IT := fun F t n h k => k (s (x t) t) n h
def Ieff (o : OT) : IT := fun F t n h k => o F t n h (fun _ n h => k t n h)
def Igset (g : GT) (b : Bool) (s : XV → Tm → Tm) (o : OT) : IT := fun F t n h k => xgd (g t) b (fun c => Bool.rec (k (s .sk t) n h) (o F t n h (fun v n h => k (s v t) n h)) c)
def Igeff (g : GT) (b : Bool) (o : OT) : IT := fun F t n h k => xgd (g t) b (fun c => Bool.rec (k t n h) (o F t n h (fun _ n h => k t n h)) c)
def Jn : IT := fun _ t n h k => k t n h
def Jc (i l : IT) : IT := fun F t n h k => i F t n h (fun t n h => l F t n h k)
abbrev AT := XF → Tm → Pb → Hp → R → R
def Aset (g : GT) (o : OT) : AT := fun F t n h k => o F t n h (fun v _ _ => Bool.rec none k (xsame (g t) v))
def Agset (g : GT) (b : Bool) (d : GT) (o : OT) : AT := fun F t n h k => xgd (g t) b (fun c => Bool.rec k (o F t n h (fun v _ _ => Bool.rec none k (xsame (d t) v))) c)
def Abad : AT := fun _ _ _ _ _ => none
def An : AT := fun _ _ _ _ k => k
def Ac (i l : AT) : AT := fun F t n h k => i F t n h (l F t n h k)
def Pn : Tm → R → R := fun _ k => k
def Pp (x y : GT) : Tm → R → R := fun t k => xblk (x t) (fun a => xblk (y t) (fun b => Bool.rec k none (eqP a b)))
def Sn : IT := fun _ t n h k => k t n h
def Sc (g : IT) (a : AT) (p : Tm → R → R) (e l : IT) : IT := fun F t n h k => g F t n h (fun t n h => a F t n h (p t (e F t n h (fun t n h => l F t n h k))))
def Cskip : CT := fun _ _ t n h k _ _ => k t n h
def Cops (l : IT) : CT := fun _ F t n h k _ _ => l F t n h k
def Cseq (a b : CT) : CT := fun m F t n h k ke kr => a m F t n h (fun t n h => b m F t n h k ke kr) ke kr
def Ccond (c : GT) (a b : CT) : CT := fun m F t n h k ke kr => xcond (c t) a b m F t n h k ke kr
def Cblock (id : Nat) (a : CT) : CT := fun m F t n h k ke kr => a m F t n h k (fun i t n h => Bool.rec (ke i t n h) (k t n h) (Nat.beq i id)) kr
def Cloop (a : CT) : CT := fun m F t n h _ ke kr => xloop m a m F t n h ke kr
def Cexit (id : Nat) : CT := fun _ _ t n h _ ke _ => ke id t n h
def Cret : CT := fun _ _ t n h _ _ kr => kr t n h
def Cbad : CT := fun _ _ _ _ _ _ _ _ => none
def Rn : RT := fun _ _ _ k => k .nil
def Rc (r l : RT) : RT := fun t n h k => r t n h (fun v => l t n h (fun l => k (.cons v l)))
def Rt (g : GT) : RT := fun t _ _ k => k (g t)
def R1 (g : GT) : RT := fun t n h k => xload1 (g t) n h (fun v _ _ => k v)
def RN (c : Nat) (g : GT) : RT := fun t n h k => xloadN (g t) c n h (fun v _ _ => k v)
def R0 : RT := fun _ _ _ k => k (.tu .nil)
def Rtu (l : RT) : RT := fun t n h k => l t n h (fun v => k (.tu v))
def Par0 : PT := fun a t k => xend a t k
def Par1 (s : XV → Tm → Tm) (l : PT) : PT := fun a t k => l (ltl a) (s (lhd a) t) k
def Fn (p : PT) (b : CT) (r : RT) : YT := fun _ _ m F a n h k => p a t0 (fun t => b m F t n h (fun t n h => r t n h (fun v => k v n h)) (fun _ _ _ _ => none) (fun t n h => r t n h (fun v => k v n h)))
def yf (x : XFn) : YT := fun ext f m F a n h k => xfn (some x) ext f m F a n h k
inductive YR where
  | nil
  | node (v : Option YT) (l r : YR)
def YR.find (t : YR) (f : Nat) : Option YT := YR.rec (motive := fun _ => Nat → Option YT) (fun _ => none)
  (fun v _ _ l r f => Nat.rec (motive := fun _ => (Nat → Option YT) → (Nat → Option YT) → Option YT) (fun _ _ => v) (fun f _ l r => Nat.rec (motive := fun _ => (Nat → Option YT) → (Nat → Option YT) → Nat → Option YT) (fun l _ q => l q) (fun _ _ _ r q => r q) (Nat.mod f 2) l r (Nat.div f 2)) f l r) t f
def yfn (v : Option YT) (ext : XF) (f m : Nat) (F : XF) (a : XV) (n : Pb) (h : Hp) (k : K) : R :=
  Option.rec (motive := fun _ => XF → Nat → Nat → XF → XV → Pb → Hp → K → R) (fun ext f _ _ a n h k => ext f a n h k) (fun y => y) v ext f m F a n h k
def ycall (tab : YR) (ext : XF) (m : Nat) (fuel : Nat) : XF :=
  Nat.rec (motive := fun _ => XF) (fun _ _ _ _ _ => none) (fun _ ih f a n h k => yfn (tab.find f) ext f m ih a n h k) fuel

/-! ### from the abstract code to the quick one -/
def d16 : Nat → D16
  | 0 => .d0 | 1 => .d1 | 2 => .d2 | 3 => .d3 | 4 => .d4 | 5 => .d5 | 6 => .d6 | 7 => .d7 | 8 => .d8 | 9 => .d9 | 10 => .d10 | 11 => .d11 | 12 => .d12 | 13 => .d13 | 14 => .d14 | _ => .d15
def ptOf (i : Nat) : Pt := ⟨d16 (i / 16), d16 (i % 16)⟩
def pbOf (i : Nat) : Pb := ⟨d16 (i % 16), d16 (i / 16 % 16), d16 (i / 256 % 16), d16 (i / 4096)⟩
def numOf : List UInt8 → Nat
  | [] => 0
  | b :: l => b.toNat + 256 * numOf l
def valX1 : Value → XV
  | .bool b => .b b
  | .int k n => .i k n
  | .string s => .s s.data.toList.length (numOf s.data.toList)
  | .pointer none => .np
  | .slice none _ _ => .nsl
  | .map none => .nm
  | .nilFunc => .nf
  | .nilIface => .ni
  | _ => .u
def consX : List XV → XV
  | [] => .nil
  | v :: l => .cons v (consX l)
def valX : Value → XV
  | .agg c => .ag (consX (c.toList.map valX1))
  | v => valX1 v
def opndX : Operand → XO
  | .tmp i => .t (ptOf i)
  | .const v => .c (valX v)
  | .global g => .c (.p (pbOf g) 0)
  | .func f => .c (.fn f .nil .nil)
def opndsX : List Operand → List XO
  | [] => []
  | x :: l => opndX x :: opndsX l
def optX : Option Operand → XO
  | some x => opndX x
  | none => .no
def ceX : List Value → Nat → Ce → Ce
  | [], _, t => t
  | v :: l, i, t => ceX l (i + 1) (cset (valX v) t i)
def mkCe (l : List Value) : Ce := ceX l 0 (ceOf l.length)
def partX (pl : Nat → Option (Nat × Nat)) : List (Nat × Operand) → List XP
  | [] => []
  | (i, x) :: l => (match pl i with
    | some (off, size) => ⟨off, size, opndX x⟩
    | none => ⟨0, 0, opndX x⟩) :: partX pl l
def opX : AOp → XOp
  | .move x => .mv (opndX x)
  | .pick c a b => .pk (opndX c) (opndX a) (opndX b)
  | .alloc e zs => .alloc (.ob zs.length (mkCe zs) e .var)
  | .box e x => .box e (opndX x)
  | .build pl zs ps => .build (consX (zs.map valX)) (partX (fun i => pl[i]?) ps)
  | .buildSl e z c zs ps => .buildSl e z c (c * z) (mkCe (zeros zs c)) (partX (fun i => some (i * z, z)) ps)
  | .load1 a => .load1 (opndX a)
  | .loadN n a => .loadN n (opndX a)
  | .store n a x => if n = 1 then .store1 (opndX a) (opndX x) else .storeN n (opndX a) (opndX x)
  | .nilCheck x => .nilCheck (opndX x)
  | .bin o x y => .bin o (opndX x) (opndX y)
  | .eq ng k x y => .eq ng k (opndX x) (opndX y)
  | .un o x => .un o (opndX x)
  | .convInt k x => .convInt k (opndX x)
  | .makeFunc (.func f) a c => .makeFn f (opndsX a) (opndsX c)
  | .cutStr x lo hi => .cutStr (opndX x) (optX lo) (optX hi)
  | .cutSl z x lo hi => .cutSl z (opndX x) (optX lo) (optX hi)
  | .shift n x => .shift n (opndX x)
  | .field1 o x => .field1 o (opndX x)
  | .fieldN o n x => .fieldN o n (opndX x)
  | .idxAddr z x i => .idxAddr z (opndX x) (opndX i)
  | .idxStr x i => .idxStr (opndX x) (opndX i)
  | .rangeStr x => .range (opndX x)
  | .nextStr x => .next (opndX x)
  | .extract x i => .extract (opndX x) i
  | .len k x => .len k (opndX x)
  | .append e z u s x => .append e z u (opndX s) (opndX x)
  | .copy z d s => .copy z (opndX d) (opndX s)
  | .minmax mx x y => .minmax mx (opndX x) (opndX y)
  | .makeSl e z u zs l c => .makeSl e z u (consX (zs.map valX)) (opndX l) (opndX c)
  | .idxArr n z x i => .idxArr n z (opndX x) (opndX i)
  | .call f a => .call (opndX f) (opndsX a)
  | _ => .bad
def insX (i : AInstr) : XI :=
  match i.dst, i.guard with
  | some d, none => .set (ptOf d) (opX i.op)
  | none, none => .eff (opX i.op)
  | some d, some (g, b) => .gset (ptOf g) b (ptOf d) (opX i.op)
  | none, some (g, b) => .geff (ptOf g) b (opX i.op)
def inssX : List AInstr → List XI
  | [] => []
  | i :: l => insX i :: inssX l
def stageX (ops : List AInstr) (s : Stage) : XS :=
  match s.eff with
  | none => ⟨inssX (pick ops s.group), inssX (pick ops s.again), [], none⟩
  | some e => match s.pair with
    | none => ⟨inssX (pick ops s.group), inssX (pick ops s.again), inssX (pick ops [e]), none⟩
    | some e' => ⟨inssX (pick ops s.group), inssX (pick ops s.again), inssX (pick ops [e, e']), match pick ops [e, e'] with
      | [⟨_, _, .store _ a _⟩, ⟨_, _, .store _ b _⟩] => some (opndX a, opndX b)
      | _ => none⟩
def stagesX (ops : List AInstr) : List Stage → List XS
  | [] => []
  | s :: l => stageX ops s :: stagesX ops l
def codeX : ACode → XC
  | .skip => .skip
  | .ops l => .ops (inssX l)
  | .draw ops l => .draw (stagesX ops l)
  | .seq a b => .seq (codeX a) (codeX b)
  | .cond c a b => .cond (opndX c) (codeX a) (codeX b)
  | .block i a => .block i (codeX a)
  | .loop a => .loop (codeX a)
  | .exit i => .exit i
  | .ret => .ret
  | _ => .bad
def resX : ARes → XR
  | .tmp i => .tmp (ptOf i)
  | .cell1 i => .cell1 (ptOf i)
  | .cellN n i => .cellN n (ptOf i)
def ressX : List ARes → List XR
  | [] => []
  | r :: l => resX r :: ressX l
def parX : Nat → Nat → List Pt
  | 0, _ => []
  | n + 1, i => ptOf i :: parX n (i + 1)
def fnX (np : Nat) (a : AFunc) : XFn := ⟨parX np 0, codeX a.body, ressX a.results⟩

/-! ### from the quick code's syntax to the functions -/
def gT0 (b : D16) : GT := D16.rec (motive := fun _ => GT) T0 T1 T2 T3 T4 T5 T6 T7 T8 T9 T10 T11 T12 T13 T14 T15 b
def gS0 (b : D16) : XV → Tm → Tm := D16.rec (motive := fun _ => XV → Tm → Tm) S0 S1 S2 S3 S4 S5 S6 S7 S8 S9 S10 S11 S12 S13 S14 S15 b
def gT1 (b : D16) : GT := D16.rec (motive := fun _ => GT) T16 T17 T18 T19 T20 T21 T22 T23 T24 T25 T26 T27 T28 T29 T30 T31 b
def gS1 (b : D16) : XV → Tm → Tm := D16.rec (motive := fun _ => XV → Tm → Tm) S16 S17 S18 S19 S20 S21 S22 S23 S24 S25 S26 S27 S28 S29 S30 S31 b
def gT2 (b : D16) : GT := D16.rec (motive := fun _ => GT) T32 T33 T34 T35 T36 T37 T38 T39 T40 T41 T42 T43 T44 T45 T46 T47 b
def gS2 (b : D16) : XV → Tm → Tm := D16.rec (motive := fun _ => XV → Tm → Tm) S32 S33 S34 S35 S36 S37 S38 S39 S40 S41 S42 S43 S44 S45 S46 S47 b
def gT3 (b : D16) : GT := D16.rec (motive := fun _ => GT) T48 T49 T50 T51 T52 T53 T54 T55 T56 T57 T58 T59 T60 T61 T62 T63 b
def gS3 (b : D16) : XV → Tm → Tm := D16.rec (motive := fun _ => XV → Tm → Tm) S48 S49 S50 S51 S52 S53 S54 S55 S56 S57 S58 S59 S60 S61 S62 S63 b
def gT4 (b : D16) : GT := D16.rec (motive := fun _ => GT) T64 T65 T66 T67 T68 T69 T70 T71 T72 T73 T74 T75 T76 T77 T78 T79 b
def gS4 (b : D16) : XV → Tm → Tm := D16.rec (motive := fun _ => XV → Tm → Tm) S64 S65 S66 S67 S68 S69 S70 S71 S72 S73 S74 S75 S76 S77 S78 S79 b
def gT5 (b : D16) : GT := D16.rec (motive := fun _ => GT) T80 T81 T82 T83 T84 T85 T86 T87 T88 T89 T90 T91 T92 T93 T94 T95 b
def gS5 (b : D16) : XV → Tm → Tm := D16.rec (motive := fun _ => XV → Tm → Tm) S80 S81 S82 S83 S84 S85 S86 S87 S88 S89 S90 S91 S92 S93 S94 S95 b
def gT6 (b : D16) : GT := D16.rec (motive := fun _ => GT) T96 T97 T98 T99 T100 T101 T102 T103 T104 T105 T106 T107 T108 T109 T110 T111 b
def gS6 (b : D16) : XV → Tm → Tm := D16.rec (motive := fun _ => XV → Tm → Tm) S96 S97 S98 S99 S100 S101 S102 S103 S104 S105 S106 S107 S108 S109 S110 S111 b
def gT7 (b : D16) : GT := D16.rec (motive := fun _ => GT) T112 T113 T114 T115 T116 T117 T118 T119 T120 T121 T122 T123 T124 T125 T126 T127 b
def gS7 (b : D16) : XV → Tm → Tm := D16.rec (motive := fun _ => XV → Tm → Tm) S112 S113 S114 S115 S116 S117 S118 S119 S120 S121 S122 S123 S124 S125 S126 S127 b
def gT8 (b : D16) : GT := D16.rec (motive := fun _ => GT) T128 T129 T130 T131 T132 T133 T134 T135 T136 T137 T138 T139 T140 T141 T142 T143 b
def gS8 (b : D16) : XV → Tm → Tm := D16.rec (motive := fun _ => XV → Tm → Tm) S128 S129 S130 S131 S132 S133 S134 S135 S136 S137 S138 S139 S140 S141 S142 S143 b
def gT9 (b : D16) : GT := D16.rec (motive := fun _ => GT) T144 T145 T146 T147 T148 T149 T150 T151 T152 T153 T154 T155 T156 T157 T158 T159 b
def gS9 (b : D16) : XV → Tm → Tm := D16.rec (motive := fun _ => XV → Tm → Tm) S144 S145 S146 S147 S148 S149 S150 S151 S152 S153 S154 S155 S156 S157 S158 S159 b
def gT10 (b : D16) : GT := D16.rec (motive := fun _ => GT) T160 T161 T162 T163 T164 T165 T166 T167 T168 T169 T170 T171 T172 T173 T174 T175 b
def gS10 (b : D16) : XV → Tm → Tm := D16.rec (motive := fun _ => XV → Tm → Tm) S160 S161 S162 S163 S164 S165 S166 S167 S168 S169 S170 S171 S172 S173 S174 S175 b
def gT11 (b : D16) : GT := D16.rec (motive := fun _ => GT) T176 T177 T178 T179 T180 T181 T182 T183 T184 T185 T186 T187 T188 T189 T190 T191 b
def gS11 (b : D16) : XV → Tm → Tm := D16.rec (motive := fun _ => XV → Tm → Tm) S176 S177 S178 S179 S180 S181 S182 S183 S184 S185 S186 S187 S188 S189 S190 S191 b
def gT12 (b : D16) : GT := D16.rec (motive := fun _ => GT) T192 T193 T194 T195 T196 T197 T198 T199 T200 T201 T202 T203 T204 T205 T206 T207 b
def gS12 (b : D16) : XV → Tm → Tm := D16.rec (motive := fun _ => XV → Tm → Tm) S192 S193 S194 S195 S196 S197 S198 S199 S200 S201 S202 S203 S204 S205 S206 S207 b
def gT13 (b : D16) : GT := D16.rec (motive := fun _ => GT) T208 T209 T210 T211 T212 T213 T214 T215 T216 T217 T218 T219 T220 T221 T222 T223 b
def gS13 (b : D16) : XV → Tm → Tm := D16.rec (motive := fun _ => XV → Tm → Tm) S208 S209 S210 S211 S212 S213 S214 S215 S216 S217 S218 S219 S220 S221 S222 S223 b
def gT14 (b : D16) : GT := D16.rec (motive := fun _ => GT) T224 T225 T226 T227 T228 T229 T230 T231 T232 T233 T234 T235 T236 T237 T238 T239 b
def gS14 (b : D16) : XV → Tm → Tm := D16.rec (motive := fun _ => XV → Tm → Tm) S224 S225 S226 S227 S228 S229 S230 S231 S232 S233 S234 S235 S236 S237 S238 S239 b
def gT15 (b : D16) : GT := D16.rec (motive := fun _ => GT) T240 T241 T242 T243 T244 T245 T246 T247 T248 T249 T250 T251 T252 T253 T254 T255 b
def gS15 (b : D16) : XV → Tm → Tm := D16.rec (motive := fun _ => XV → Tm → Tm) S240 S241 S242 S243 S244 S245 S246 S247 S248 S249 S250 S251 S252 S253 S254 S255 b
def gG (p : Pt) : GT := D16.rec (motive := fun _ => D16 → GT) gT0 gT1 gT2 gT3 gT4 gT5 gT6 gT7 gT8 gT9 gT10 gT11 gT12 gT13 gT14 gT15 p.a p.b
def gS (p : Pt) : XV → Tm → Tm := D16.rec (motive := fun _ => D16 → XV → Tm → Tm) gS0 gS1 gS2 gS3 gS4 gS5 gS6 gS7 gS8 gS9 gS10 gS11 gS12 gS13 gS14 gS15 p.a p.b
theorem gG_eq (p : Pt) : gG p = tget p := by
  obtain ⟨a, b⟩ := p
  cases a <;> cases b <;> rfl
theorem gS_eq (p : Pt) : gS p = fun v t => tset p v t := by
  obtain ⟨a, b⟩ := p
  cases a <;> cases b <;> rfl
def gO : XO → GT
  | .t p => gG p
  | .c v => Kc v
  | .no => Bn
theorem gO_eq (x : XO) : gO x = xo x := by
  cases x with
  | t p => exact gG_eq p
  | c v => rfl
  | no => rfl
def gB : XO → GT
  | .t p => Bt (gG p)
  | .c v => Bk v
  | .no => Bn
theorem gB_eq (x : XO) : gB x = xob x := by
  cases x with
  | t p => simp only [gB, gG_eq]; rfl
  | c v => rfl
  | no => rfl
def gL : List XO → GT
  | [] => Ln
  | x :: l => Lc (gO x) (gL l)
theorem gL_eq : ∀ l : List XO, gL l = xos l
  | [] => rfl
  | x :: l => by simp only [gL, gO_eq, gL_eq l]; rfl
theorem lapp_xos : ∀ (l : List XO) (t : Tm), lapp (xos l t) .nil = xos l t
  | [], t => rfl
  | x :: l, t => by
    show XV.cons (xo x t) (lapp (xos l t) .nil) = XV.cons (xo x t) (xos l t)
    rw [lapp_xos l t]
def gQ : List XP → QT
  | [] => Qn
  | ⟨off, size, x⟩ :: l => Qc off size (gO x) (gQ l)
theorem gQ_eq : ∀ l : List XP, gQ l = fun t m k => parts l t m k
  | [] => rfl
  | ⟨off, size, x⟩ :: l => by simp only [gQ, gO_eq, gQ_eq l]; rfl
def gW : List XP → WT
  | [] => Wn
  | ⟨off, size, x⟩ :: l => Wc off size (gO x) (gW l)
theorem gW_eq : ∀ l : List XP, gW l = fun t m k => partsO l t m k
  | [] => rfl
  | ⟨off, size, x⟩ :: l => by simp only [gW, gO_eq, gW_eq l]; rfl
def gOp : XOp → OT
  | .mv x => Omv (gO x)
  | .pk c a b => Opk (gO c) (gO a) (gO b)
  | .alloc o => Oalloc o
  | .box e x => Obox e (gO x)
  | .build m l => Obuild m (gQ l)
  | .buildSl e z c len ce l => ObuildSl e z c len ce (gW l)
  | .load1 a => Oload1 (gO a)
  | .loadN c a => OloadN c (gO a)
  | .store1 a x => Ostore1 (gO a) (gO x)
  | .storeN c a x => OstoreN c (gO a) (gO x)
  | .nilCheck x => OnilCheck (gO x)
  | .bin o x y => Obin o (gO x) (gO y)
  | .eq ng e x y => Oeq ng e (gO x) (gO y)
  | .un o x => Oun o (gO x)
  | .convInt q x => OconvInt q (gO x)
  | .makeFn f a c => OmakeFn f (gL a) (gL c)
  | .cutStr x lo hi => OcutStr (gO x) (gB lo) (gB hi)
  | .cutSl z x lo hi => OcutSl z (gO x) (gB lo) (gB hi)
  | .shift z x => Oshift z (gO x)
  | .field1 z x => Ofield1 z (gO x)
  | .fieldN z c x => OfieldN z c (gO x)
  | .idxAddr z x i => OidxAddr z (gO x) (gO i)
  | .idxStr x i => OidxStr (gO x) (gO i)
  | .range x => Orange (gO x)
  | .next x => Onext (gO x)
  | .extract x z => Oextract (gO x) z
  | .len y x => Olen y (gO x)
  | .append e z u s x => Oappend e z u (gO s) (gO x)
  | .copy z d x => Ocopy z (gO d) (gO x)
  | .minmax mx x y => Ominmax mx (gO x) (gO y)
  | .makeSl e z u zs l c => OmakeSl e z u zs (gO l) (gO c)
  | .idxArr len z x i => OidxArr len z (gO x) (gO i)
  | .call (.c (.fn f .nil .nil)) a => Ofun f (gL a)
  | .call f a => Ocall (gO f) (gL a)
  | .bad => Obad
theorem gOp_eq (o : XOp) : gOp o = fun F t n h k => xop o F t n h k := by
  unfold gOp
  split <;> first
    | rfl
    | (simp only [gO_eq, gL_eq, gB_eq, gQ_eq, gW_eq]; rfl)
    | skip
  rename_i f a
  funext F t n h k
  show F f (gL a t) n h k = F f (lapp .nil (lapp (xos a t) .nil)) n h k
  rw [lapp_xos, gL_eq]
  rfl
def gI : XI → IT
  | .set d (.mv x) => Imv (gS d) (gO x)
  | .set d o => Iset (gS d) (gOp o)
  | .eff o => Ieff (gOp o)
  | .gset g b d o => Igset (gG g) b (gS d) (gOp o)
  | .geff g b o => Igeff (gG g) b (gOp o)
theorem gI_eq (i : XI) : gI i = fun F t n h k => xi i F t n h k := by
  unfold gI
  split <;> (simp only [gO_eq, gOp_eq, gG_eq, gS_eq]; rfl)
def gIs : List XI → IT
  | [] => Jn
  | i :: l => Jc (gI i) (gIs l)
theorem gIs_eq : ∀ l : List XI, gIs l = fun F t n h k => xis l F t n h k
  | [] => rfl
  | i :: l => by simp only [gIs, gI_eq, gIs_eq l]; rfl
def gA : XI → AT
  | .set d o => Aset (gG d) (gOp o)
  | .gset g b d o => Agset (gG g) b (gG d) (gOp o)
  | _ => Abad
theorem gA_eq (i : XI) : gA i = fun F t n h k => xag i F t n h k := by
  cases i <;> first
    | rfl
    | (simp only [gA, gOp_eq, gG_eq]; rfl)
def gAs : List XI → AT
  | [] => An
  | i :: l => Ac (gA i) (gAs l)
theorem gAs_eq : ∀ l : List XI, gAs l = fun F t n h k => xags l F t n h k
  | [] => rfl
  | i :: l => by simp only [gAs, gA_eq, gAs_eq l]; rfl
def gP : Option (XO × XO) → Tm → R → R
  | none => Pn
  | some (x, y) => Pp (gO x) (gO y)
theorem gP_eq (p : Option (XO × XO)) : gP p = fun t k => xapart p t k := by
  cases p with
  | none => rfl
  | some q => obtain ⟨x, y⟩ := q; simp only [gP, gO_eq]; rfl
def gSt : List XS → IT
  | [] => Sn
  | ⟨g, a, e, p⟩ :: l => Sc (gIs g) (gAs a) (gP p) (gIs e) (gSt l)
theorem gSt_eq : ∀ l : List XS, gSt l = fun F t n h k => xst l F t n h k
  | [] => rfl
  | ⟨g, a, e, p⟩ :: l => by simp only [gSt, gIs_eq, gAs_eq, gP_eq, gSt_eq l]; rfl
def gC : XC → CT
  | .skip => Cskip
  | .ops l => Cops (gIs l)
  | .draw l => Cops (gSt l)
  | .seq a b => Cseq (gC a) (gC b)
  | .cond c a b => Ccond (gO c) (gC a) (gC b)
  | .block i a => Cblock i (gC a)
  | .loop a => Cloop (gC a)
  | .exit i => Cexit i
  | .ret => Cret
  | .bad => Cbad
theorem gC_eq (c : XC) : gC c = xc c := by
  induction c with
  | skip => rfl
  | ops l => simp only [gC, gIs_eq]; rfl
  | draw l => simp only [gC, gSt_eq]; rfl
  | seq a b ha hb => simp only [gC, ha, hb]; rfl
  | cond c a b ha hb => simp only [gC, ha, hb, gO_eq]; rfl
  | block i a ha => simp only [gC, ha]; rfl
  | loop a ha => simp only [gC, ha]; rfl
  | exit i => rfl
  | ret => rfl
  | bad => rfl
def gR : XR → RT
  | .tmp p => Rt (gG p)
  | .cell1 p => R1 (gG p)
  | .cellN c p => RN c (gG p)
theorem gR_eq (r : XR) : gR r = fun t n h k => xres1 r t n h k := by
  cases r <;> (simp only [gR, gG_eq]; rfl)
def gRl : List XR → RT
  | [] => Rn
  | r :: l => Rc (gR r) (gRl l)
theorem gRl_eq : ∀ l : List XR, gRl l = fun t n h k => xresL l t n h k
  | [] => rfl
  | r :: l => by simp only [gRl, gR_eq, gRl_eq l]; rfl
def gRs : List XR → RT
  | [] => R0
  | [r] => gR r
  | r :: q :: l => Rtu (gRl (r :: q :: l))
theorem gRs_eq : ∀ l : List XR, gRs l = fun t n h k => xres l t n h k
  | [] => rfl
  | [r] => by simp only [gRs, gR_eq]; rfl
  | r :: q :: l => by simp only [gRs, gRl_eq]; rfl
def gPar : List Pt → PT
  | [] => Par0
  | p :: l => Par1 (gS p) (gPar l)
theorem gPar_eq : ∀ l : List Pt, gPar l = fun a t k => xpar l a t k
  | [] => rfl
  | p :: l => by simp only [gPar, gS_eq, gPar_eq l]; rfl
def gF : XFn → YT
  | ⟨p, b, r⟩ => Fn (gPar p) (gC b) (gRs r)
theorem gF_eq (x : XFn) : gF x = yf x := by
  obtain ⟨p, b, r⟩ := x
  simp only [gF, gPar_eq, gC_eq, gRs_eq]
  rfl

/-- Is the quick function right? -/
def chkY (P : Program) (fn : Func) (an : Ann) : Bool := !(fn.name == "runtime.NumGoroutine") && match compF P fn an with
  | some a => okF (fnX (fn.params.size + fn.nfree) a) a
  | none => false
def yOf (P : Program) (fn : Func) (an : Ann) : YT :=
  match compF P fn an with
  | some a => gF (fnX (fn.params.size + fn.nfree) a)
  | none => fun _ _ _ _ _ _ _ _ => none
def YOk (P : Program) (f : Nat) (y : YT) : Prop := ∃ fn an, P.funcs[f]? = some fn ∧ chkY P fn an = true ∧ y = yOf P fn an
def AllY (Q : Nat → YT → Prop) : YR → (Nat → Nat) → Prop
  | .nil, _ => True
  | .node v l r, g => (∀ x, v = some x → Q (g 0) x) ∧ AllY Q l (fun n => g (2 * n + 1)) ∧ AllY Q r (fun n => g (2 * n + 2))
theorem AllY.one {Q : Nat → YT → Prop} {i : Nat} {y : YT} (h : Q i y) : ∀ x, some y = some x → Q i x := fun x e => by cases e; exact h
theorem AllY.non {Q : Nat → YT → Prop} {i : Nat} : ∀ x, (none : Option YT) = some x → Q i x := fun x e => by cases e

theorem findY_node (v : Option YT) (l r : YR) (f : Nat) : (YR.node v l r).find f = if f = 0 then v else if f % 2 = 1 then l.find (f / 2) else r.find (f / 2 - 1) := by
  cases f with
  | zero => rfl
  | succ f =>
    rw [if_neg (by omega)]
    have h : (YR.node v l r).find (f + 1) = Nat.rec (motive := fun _ => (Nat → Option YT) → (Nat → Option YT) → Nat → Option YT) (fun l _ q => l q) (fun _ _ _ r q => r q) (Nat.mod f 2) l.find r.find (Nat.div f 2) := rfl
    rw [h]
    have h2 : Nat.mod f 2 = f % 2 := rfl
    have h3 : Nat.div f 2 = f / 2 := rfl
    rw [h2, h3]
    rcases Nat.mod_two_eq_zero_or_one f with e | e
    · rw [e, if_pos (by omega), show (f + 1) / 2 = f / 2 by omega]; rfl
    · rw [e, if_neg (by omega), show (f + 1) / 2 - 1 = f / 2 by omega]; rfl

theorem AllY.find {Q : Nat → YT → Prop} : ∀ {t : YR} {g : Nat → Nat}, AllY Q t g → ∀ {f : Nat} {x : YT}, t.find f = some x → Q (g f) x
  | .nil, g, _, f, x, h => by cases h
  | .node v l r, g, ha, f, x, h => by
    obtain ⟨h1, h2, h3⟩ := ha
    rw [findY_node] at h
    by_cases e : f = 0
    · rw [if_pos e] at h; subst e; exact h1 x h
    · rw [if_neg e] at h
      by_cases e1 : f % 2 = 1
      · rw [if_pos e1] at h
        have := h2.find h
        rw [show 2 * (f / 2) + 1 = f by omega] at this; exact this
      · rw [if_neg e1] at h
        have := h3.find h
        rw [show 2 * (f / 2 - 1) + 2 = f by omega] at this; exact this

theorem tabY_of {P : Program} {taby : YR} (ha : AllY (YOk P) taby (fun n => n)) : ∃ tab, TabOk P tab ∧ ∀ f, match taby.find f with
    | some y => ∃ a x, tab f = some a ∧ okF x a = true ∧ y = yf x
    | none => tab f = none := by
  have key : ∀ f, ∃ o : Option AFunc, (∀ af, o = some af → ∃ fn an, P.funcs[f]? = some fn ∧ (fn.name == "runtime.NumGoroutine") = false ∧ compF P fn an = some af) ∧ (match taby.find f with
    | some y => ∃ a x, o = some a ∧ okF x a = true ∧ y = yf x
    | none => o = none) := by
    intro f
    cases h : taby.find f with
    | none => exact ⟨none, ⟨fun af e => (by cases e), rfl⟩⟩
    | some y =>
      obtain ⟨fn, an, h1, h2, h4⟩ := ha.find h
      unfold chkY at h2
      simp only [Bool.and_eq_true, Bool.not_eq_true'] at h2
      obtain ⟨h2, h3⟩ := h2
      unfold yOf at h4
      split at h3
      · rename_i a hc
        rw [hc] at h4
        exact ⟨some a, ⟨fun af e => (by cases e; exact ⟨fn, an, h1, h2, hc⟩), a, _, rfl, h3, h4.trans (gF_eq _)⟩⟩
      · cases h3
  exact ⟨fun f => (key f).choose, fun f af h => (key f).choose_spec.1 af h, fun f => (key f).choose_spec.2⟩

theorem ycall_ok {taby : YR} {tab : FuncId → Option AFunc} {ex : XF} {ea : FF} {m : Nat}
    (htab : ∀ f, match taby.find f with
      | some y => ∃ a x, tab f = some a ∧ okF x a = true ∧ y = yf x
      | none => tab f = none) (hex : FOK ex ea) : ∀ k, FOK (ycall taby ex m k) (callA tab ea m k)
  | 0 => by intro f a n hx k r hr; cases hr
  | d + 1 => by
    have ih := ycall_ok (m := m) htab hex d
    intro f a n hx k r hr h H0
    have hr' : yfn (taby.find f) ex f m (ycall taby ex m d) a n hx k = some r := hr
    have ht := htab f
    cases hf : taby.find f with
    | none =>
      rw [hf] at ht hr'
      simp only at ht
      simp only [callA, ht]
      exact hex f a n hx k r hr' h H0
    | some y =>
      rw [hf] at ht hr'
      obtain ⟨af, x, h1, h2, rfl⟩ := ht
      exact xfn_ok (ex := ex) ih h1 h2 hr' H0

/-- The quick machine is right. -/
theorem runY_ok {P : Program} {taby : YR} (ha : AllY (YOk P) taby (fun n => n)) {ex : XF} {ea : FF} (hex : FOK ex ea) (hE : Good P ea) {m k f : Nat} {a : XV} {n : Pb} {hx : Hp} {h : H} (H0 : HX n hx h) {r : XV}
    (hr : ycall taby ex m k f a n hx (fun v _ _ => some v) = some r) : ∃ h', CallOk P f (toL a) h (toV r) h' := by
  obtain ⟨tab, h1, h2⟩ := tabY_of ha
  obtain ⟨v, n', hx', h', e1, e2, e3⟩ := ycall_ok h2 hex k f a n hx _ r hr h H0
  cases e3
  exact ⟨h', call_ok draw_right h1 hE m k f _ _ _ _ e1⟩

end
end Go.Abs
