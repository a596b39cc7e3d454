/- For the doer: functions of the translation in the form that it carries out, PRINTED BY a program of this session (mklit.py), each with the proof that it is that form. -/
import Derived.Test.YtbaaecphcjhdjaaCTab
import Derived.Test.YtbaaecphcjhdjaaCxP
set_option linter.all false
set_option maxRecDepth 1000000
namespace Go.Proofs.Ytbaaecphcjhdjaa
open Go Go.Sx Go.Cx
def p0 : Tk := []
def p1 : Tk := [false]
def p2 : Tk := [true]
def p3 : Tk := [false, false]
def p4 : Tk := [true, false]
def p5 : Tk := [false, true]
def p6 : Tk := [true, true]
def p7 : Tk := [false, false, false]
def p8 : Tk := [true, false, false]
def p9 : Tk := [false, true, false]
def p10 : Tk := [true, true, false]
def p11 : Tk := [false, false, true]
def p12 : Tk := [true, false, true]
def p13 : Tk := [false, true, true]
def p14 : Tk := [true, true, true]
def p15 : Tk := [false, false, false, false]
def p16 : Tk := [true, false, false, false]
def p17 : Tk := [false, true, false, false]
def p18 : Tk := [true, true, false, false]
def p19 : Tk := [false, false, true, false]
def p20 : Tk := [true, false, true, false]
def p21 : Tk := [false, true, true, false]
def p22 : Tk := [true, true, true, false]
def p23 : Tk := [false, false, false, true]
def p24 : Tk := [true, false, false, true]
def p25 : Tk := [false, true, false, true]
def p26 : Tk := [true, true, false, true]
def p27 : Tk := [false, false, true, true]
def p28 : Tk := [true, false, true, true]
def p29 : Tk := [false, true, true, true]
def p30 : Tk := [true, true, true, true]
def p31 : Tk := [false, false, false, false, false]
def p32 : Tk := [true, false, false, false, false]
def p33 : Tk := [false, true, false, false, false]
def p34 : Tk := [true, true, false, false, false]
def p35 : Tk := [false, false, true, false, false]
def p36 : Tk := [true, false, true, false, false]
def p37 : Tk := [false, true, true, false, false]
def p38 : Tk := [true, true, true, false, false]
def p39 : Tk := [false, false, false, true, false]
def p40 : Tk := [true, false, false, true, false]
def p41 : Tk := [false, true, false, true, false]
def p42 : Tk := [true, true, false, true, false]
def p43 : Tk := [false, false, true, true, false]
def p44 : Tk := [true, false, true, true, false]
def p45 : Tk := [false, true, true, true, false]
def p46 : Tk := [true, true, true, true, false]
def p47 : Tk := [false, false, false, false, true]
def p48 : Tk := [true, false, false, false, true]
def p49 : Tk := [false, true, false, false, true]
def p50 : Tk := [true, true, false, false, true]
def p51 : Tk := [false, false, true, false, true]
def p52 : Tk := [true, false, true, false, true]
def p53 : Tk := [false, true, true, false, true]
def p54 : Tk := [true, true, true, false, true]
def p55 : Tk := [false, false, false, true, true]
def p56 : Tk := [true, false, false, true, true]
def p57 : Tk := [false, true, false, true, true]
def p58 : Tk := [true, true, false, true, true]
def p59 : Tk := [false, false, true, true, true]
def p60 : Tk := [true, false, true, true, true]
def p61 : Tk := [false, true, true, true, true]
def p62 : Tk := [true, true, true, true, true]
def p63 : Tk := [false, false, false, false, false, false]
def p64 : Tk := [true, false, false, false, false, false]
def p65 : Tk := [false, true, false, false, false, false]
def p66 : Tk := [true, true, false, false, false, false]
def p67 : Tk := [false, false, true, false, false, false]
def p68 : Tk := [true, false, true, false, false, false]
def p69 : Tk := [false, true, true, false, false, false]
def p70 : Tk := [true, true, true, false, false, false]
def p71 : Tk := [false, false, false, true, false, false]
def p72 : Tk := [true, false, false, true, false, false]
def p73 : Tk := [false, true, false, true, false, false]
def p74 : Tk := [true, true, false, true, false, false]
def p75 : Tk := [false, false, true, true, false, false]
def p76 : Tk := [true, false, true, true, false, false]
def p77 : Tk := [false, true, true, true, false, false]
def p78 : Tk := [true, true, true, true, false, false]
def p79 : Tk := [false, false, false, false, true, false]
def p80 : Tk := [true, false, false, false, true, false]
def p81 : Tk := [false, true, false, false, true, false]
def p82 : Tk := [true, true, false, false, true, false]
def p83 : Tk := [false, false, true, false, true, false]
def p84 : Tk := [true, false, true, false, true, false]
def p85 : Tk := [false, true, true, false, true, false]
def p86 : Tk := [true, true, true, false, true, false]
def p87 : Tk := [false, false, false, true, true, false]
def p88 : Tk := [true, false, false, true, true, false]
def p89 : Tk := [false, true, false, true, true, false]
def p90 : Tk := [true, true, false, true, true, false]
def p91 : Tk := [false, false, true, true, true, false]
def p92 : Tk := [true, false, true, true, true, false]
def p93 : Tk := [false, true, true, true, true, false]
def p94 : Tk := [true, true, true, true, true, false]
def p95 : Tk := [false, false, false, false, false, true]
def p96 : Tk := [true, false, false, false, false, true]
def p97 : Tk := [false, true, false, false, false, true]
def p98 : Tk := [true, true, false, false, false, true]
def p99 : Tk := [false, false, true, false, false, true]
def p100 : Tk := [true, false, true, false, false, true]
def p101 : Tk := [false, true, true, false, false, true]
def p102 : Tk := [true, true, true, false, false, true]
def p103 : Tk := [false, false, false, true, false, true]
def p104 : Tk := [true, false, false, true, false, true]
def p105 : Tk := [false, true, false, true, false, true]
def p106 : Tk := [true, true, false, true, false, true]
def p107 : Tk := [false, false, true, true, false, true]
def p108 : Tk := [true, false, true, true, false, true]
def p109 : Tk := [false, true, true, true, false, true]
def p110 : Tk := [true, true, true, true, false, true]
def p111 : Tk := [false, false, false, false, true, true]
def p112 : Tk := [true, false, false, false, true, true]
def p113 : Tk := [false, true, false, false, true, true]
def p114 : Tk := [true, true, false, false, true, true]
def p115 : Tk := [false, false, true, false, true, true]
def p116 : Tk := [true, false, true, false, true, true]
def p117 : Tk := [false, true, true, false, true, true]
def p118 : Tk := [true, true, true, false, true, true]
def p119 : Tk := [false, false, false, true, true, true]
def p120 : Tk := [true, false, false, true, true, true]
def p121 : Tk := [false, true, false, true, true, true]
def p122 : Tk := [true, true, false, true, true, true]
def p123 : Tk := [false, false, true, true, true, true]
def p124 : Tk := [true, false, true, true, true, true]
def p125 : Tk := [false, true, true, true, true, true]
def p126 : Tk := [true, true, true, true, true, true]
def p127 : Tk := [false, false, false, false, false, false, false]
def p128 : Tk := [true, false, false, false, false, false, false]
def p129 : Tk := [false, true, false, false, false, false, false]
def p130 : Tk := [true, true, false, false, false, false, false]
def p131 : Tk := [false, false, true, false, false, false, false]
def p132 : Tk := [true, false, true, false, false, false, false]
def p133 : Tk := [false, true, true, false, false, false, false]
def p134 : Tk := [true, true, true, false, false, false, false]
def p135 : Tk := [false, false, false, true, false, false, false]
def p136 : Tk := [true, false, false, true, false, false, false]
def p137 : Tk := [false, true, false, true, false, false, false]
def p138 : Tk := [true, true, false, true, false, false, false]
def p139 : Tk := [false, false, true, true, false, false, false]
def p140 : Tk := [true, false, true, true, false, false, false]
def p141 : Tk := [false, true, true, true, false, false, false]
def p142 : Tk := [true, true, true, true, false, false, false]
def p143 : Tk := [false, false, false, false, true, false, false]
def p144 : Tk := [true, false, false, false, true, false, false]
def p145 : Tk := [false, true, false, false, true, false, false]
def p146 : Tk := [true, true, false, false, true, false, false]
def p147 : Tk := [false, false, true, false, true, false, false]
def p148 : Tk := [true, false, true, false, true, false, false]
def p149 : Tk := [false, true, true, false, true, false, false]
def p150 : Tk := [true, true, true, false, true, false, false]
def p151 : Tk := [false, false, false, true, true, false, false]
def p152 : Tk := [true, false, false, true, true, false, false]
def p153 : Tk := [false, true, false, true, true, false, false]
def p154 : Tk := [true, true, false, true, true, false, false]
def p155 : Tk := [false, false, true, true, true, false, false]
def p156 : Tk := [true, false, true, true, true, false, false]
def p157 : Tk := [false, true, true, true, true, false, false]
def p158 : Tk := [true, true, true, true, true, false, false]
def p159 : Tk := [false, false, false, false, false, true, false]
def p160 : Tk := [true, false, false, false, false, true, false]
def p161 : Tk := [false, true, false, false, false, true, false]
def p162 : Tk := [true, true, false, false, false, true, false]
def p163 : Tk := [false, false, true, false, false, true, false]
def p164 : Tk := [true, false, true, false, false, true, false]
def p165 : Tk := [false, true, true, false, false, true, false]
def p166 : Tk := [true, true, true, false, false, true, false]
def p167 : Tk := [false, false, false, true, false, true, false]
abbrev nn (n : Nat) : Int := Int.ofNat n
abbrev tm (p : Tk) : Opd := Opd.tmp p
abbrev cn (v : CV) : Opd := Opd.con v
abbrev s1 (d : Option Tk) (o : COp) (i : Nat) : Stp := ⟨d, o, none, i, true, true⟩
abbrev i6 (n : Int) : CV := CV.int IntKind.i64 n
abbrev i3 (n : Int) : CV := CV.int IntKind.i32 n
noncomputable def bs (l : List Nat) : ByteArray := ⟨(l.map UInt8.ofNat).toArray⟩
noncomputable def lit2 : CFn :=
  ⟨2, 1, (CC.run [s1 (some p0) (.call (cn (CV.fn 1 [] [])) []) 0]), []⟩
theorem lit2_ok : fnO tys 2 Try.f2 = some lit2 := by kernel_rfl
noncomputable def lit3 : CFn :=
  ⟨3, 96, (CC.seq (CC.run [s1 (some p0) (.mv (cn (CV.bool false))) 0])
  (CC.seq (CC.run [s1 (some p1) (.mv (cn CV.nilp)) 0])
  (CC.seq (CC.run [s1 (some p17) (.mv (tm p1)) 0, s1 (some p18) (.build [(CV.int .u32 (nn 0)), (CV.int .u32 (nn 0)), (CV.int .u8 (nn 0)), (CV.int .u16 (nn 0)), (CV.int .u16 (nn 0))] []) 1, s1 (some p19) (.call (cn (CV.fn 4 [] [])) [(tm p17), (tm p18)]) 2, s1 (some p16) (.mv (tm p19)) 3, s1 (some p20) (.extr (tm p16) 0) 4, s1 (some p21) (.extr (tm p16) 1) 5, s1 (some p2) (.mv (tm p20)) 6, s1 (some p3) (.mv (tm p21)) 7])
  (CC.seq (CC.run [s1 (some p23) (.mv (tm p1)) 0, s1 (some p24) (.call (cn (CV.fn 5 [] [])) [(tm p23), (cn (i6 (nn 0))), (cn (i6 (nn 0)))]) 1, s1 (some p22) (.mv (tm p24)) 2, s1 (some p25) (.extr (tm p22) 0) 3, s1 (some p26) (.extr (tm p22) 1) 4, s1 (some p4) (.mv (tm p25)) 5, s1 (some p5) (.mv (tm p26)) 6])
  (CC.seq (CC.run [s1 (some p28) (.call (cn (CV.fn 6 [] [])) [(cn (i6 (nn 0)))]) 0, s1 (some p27) (.mv (tm p28)) 1, s1 (some p29) (.extr (tm p27) 0) 2, s1 (some p30) (.extr (tm p27) 1) 3, s1 (some p6) (.mv (tm p29)) 4, s1 (some p7) (.mv (tm p30)) 5])
  (CC.seq (CC.run [s1 (some p32) (.call (cn (CV.fn 6 [] [])) [(cn (i6 (nn 4194305)))]) 0, s1 (some p31) (.mv (tm p32)) 1, s1 (some p33) (.extr (tm p31) 0) 2, s1 (some p34) (.extr (tm p31) 1) 3, s1 (some p8) (.mv (tm p33)) 4, s1 (some p9) (.mv (tm p34)) 5])
  (CC.seq (CC.seq (CC.run [s1 (some p35) (.mv (tm p7)) 0, s1 (some p36) (.bin .neq (tm p35) (cn (i6 (nn 0)))) 1])
  (CC.cond (tm p36) (CC.seq (CC.run [s1 (some p0) (.mv (cn (CV.bool false))) 0])
  CC.ret)
  CC.skip))
  (CC.seq (CC.run [s1 (some p38) (.mv (tm p6)) 0, s1 (some p39) (.build [(CV.int .u32 (nn 0)), (CV.int .u32 (nn 0)), (CV.int .u8 (nn 0)), (CV.int .u16 (nn 0)), (CV.int .u16 (nn 0))] []) 1, s1 (some p40) (.call (cn (CV.fn 4 [] [])) [(tm p38), (tm p39)]) 2, s1 (some p37) (.mv (tm p40)) 3, s1 (some p41) (.extr (tm p37) 0) 4, s1 (some p42) (.extr (tm p37) 1) 5, s1 (some p10) (.mv (tm p41)) 6, s1 (some p11) (.mv (tm p42)) 7])
  (CC.seq (CC.run [s1 (some p44) (.mv (tm p6)) 0, s1 (some p45) (.call (cn (CV.fn 7 [] [])) [(tm p44), (cn (i6 (nn 0)))]) 1, s1 (some p43) (.mv (tm p45)) 2, s1 (some p46) (.extr (tm p43) 0) 3, s1 (some p47) (.extr (tm p43) 1) 4, s1 (some p12) (.mv (tm p46)) 5, s1 (some p13) (.mv (tm p47)) 6])
  (CC.seq (CC.run [s1 (some p49) (.mv (tm p6)) 0, s1 (some p50) (.call (cn (CV.fn 8 [] [])) [(tm p49), (cn (i6 (nn 1)))]) 1, s1 (some p48) (.mv (tm p50)) 2, s1 (some p51) (.extr (tm p48) 0) 3, s1 (some p52) (.extr (tm p48) 1) 4, s1 (some p14) (.new 37 [(CV.int .u64 (nn 0)), (CV.int .u64 (nn 0))]) 5, s1 none (.st 2 (tm p14) (tm p51)) 6, s1 (some p15) (.mv (tm p52)) 7])
  (CC.seq (CC.run [s1 (some p53) (.mv (cn (CV.bool true))) 0, ⟨(some p54), (.mv (tm p3)), (some (p53, true)), 1, true, true⟩, ⟨(some p55), (.bin .eql (tm p54) (cn (i6 (nn 2)))), (some (p53, true)), 2, true, true⟩, s1 (some p56) (.pick (tm p53) (tm p55) (cn (CV.bool false))) 3, s1 (some p57) (.mv (tm p56)) 4, ⟨(some p58), (.mv (tm p5)), (some (p57, true)), 5, true, true⟩, ⟨(some p59), (.bin .eql (tm p58) (cn (i6 (nn 2)))), (some (p57, true)), 6, true, true⟩, s1 (some p60) (.pick (tm p57) (tm p59) (cn (CV.bool false))) 7, s1 (some p61) (.mv (tm p60)) 8, ⟨(some p62), (.mv (tm p1)), (some (p61, true)), 9, true, true⟩, ⟨(some p63), (.call (cn (CV.fn 9 [] [])) [(tm p62)]), (some (p61, true)), 10, true, true⟩, ⟨(some p64), (.bin .eql (tm p63) (cn (i6 (nn 0)))), (some (p61, true)), 11, true, true⟩, s1 (some p65) (.pick (tm p61) (tm p64) (cn (CV.bool false))) 12, s1 (some p66) (.mv (tm p65)) 13, ⟨(some p67), (.mv (tm p9)), (some (p66, true)), 14, true, true⟩, ⟨(some p68), (.bin .eql (tm p67) (cn (i6 (nn 1)))), (some (p66, true)), 15, true, true⟩, s1 (some p69) (.pick (tm p66) (tm p68) (cn (CV.bool false))) 16, s1 (some p70) (.mv (tm p69)) 17, ⟨(some p71), (.mv (tm p11)), (some (p70, true)), 18, true, true⟩, ⟨(some p72), (.bin .eql (tm p71) (cn (i6 (nn 3)))), (some (p70, true)), 19, true, true⟩, s1 (some p73) (.pick (tm p70) (tm p72) (cn (CV.bool false))) 20, s1 (some p74) (.mv (tm p73)) 21, ⟨(some p75), (.mv (tm p12)), (some (p74, true)), 22, true, true⟩, ⟨(some p76), (.bin .eql (tm p75) (cn (i6 (nn 1)))), (some (p74, true)), 23, true, true⟩, s1 (some p77) (.pick (tm p74) (tm p76) (cn (CV.bool false))) 24, s1 (some p78) (.mv (tm p77)) 25, ⟨(some p79), (.mv (tm p13)), (some (p78, true)), 26, true, true⟩, ⟨(some p80), (.bin .eql (tm p79) (cn (i6 (nn 0)))), (some (p78, true)), 27, true, true⟩, s1 (some p81) (.pick (tm p78) (tm p80) (cn (CV.bool false))) 28, s1 (some p82) (.mv (tm p81)) 29, ⟨(some p83), (.ldn 2 (tm p14)), (some (p82, true)), 30, true, true⟩, ⟨(some p84), (.build [(CV.int .u64 (nn 0)), (CV.int .u64 (nn 0))] [(0, 1, (cn (CV.int .u64 (nn 1099511627776))))]), (some (p82, true)), 31, true, true⟩, ⟨(some p85), (.eqs false (EK.agg [(Lf.int .u64), (Lf.int .u64)]) (tm p83) (tm p84)), (some (p82, true)), 32, true, true⟩, s1 (some p86) (.pick (tm p82) (tm p85) (cn (CV.bool false))) 33, s1 (some p87) (.mv (tm p86)) 34, ⟨(some p88), (.mv (tm p15)), (some (p87, true)), 35, true, true⟩, ⟨(some p89), (.bin .eql (tm p88) (cn (i6 (nn 0)))), (some (p87, true)), 36, true, true⟩, s1 (some p90) (.pick (tm p87) (tm p89) (cn (CV.bool false))) 37, s1 (some p91) (.mv (tm p90)) 38, ⟨(some p92), (.mv (tm p6)), (some (p91, true)), 39, true, true⟩, ⟨(some p93), (.call (cn (CV.fn 9 [] [])) [(tm p92)]), (some (p91, true)), 40, true, true⟩, ⟨(some p94), (.bin .eql (tm p93) (cn (i6 (nn 0)))), (some (p91, true)), 41, true, true⟩, s1 (some p95) (.pick (tm p91) (tm p94) (cn (CV.bool false))) 42, s1 (some p0) (.mv (tm p95)) 43])
  CC.ret))))))))))), [CRes.tmp p0]⟩
theorem lit3_ok : fnO tys 3 Try.f3 = some lit3 := by kernel_rfl
noncomputable def lit4 : CFn :=
  ⟨4, 71, (CC.seq (CC.run [s1 (some p3) (.box 30 (tm p1)) 0, s1 (some p4) (.mv (cn (i6 (nn 0)))) 1, s1 (some p5) (.mv (cn (i6 (nn 0)))) 2])
  (CC.seq (CC.seq (CC.run [s1 (some p12) (.mv (tm p0)) 0, s1 (some p13) (.eqs false EK.ptr (tm p12) (cn CV.nilp)) 1])
  (CC.cond (tm p13) (CC.seq (CC.run [s1 (some p4) (.mv (cn (i6 (nn 0)))) 0, s1 (some p5) (.mv (cn (i6 (nn 2)))) 1])
  CC.ret)
  CC.skip))
  (CC.seq (CC.run [s1 (some p6) (.mv (cn (i6 (nn 1)))) 0])
  (CC.seq (CC.run [s1 (some p14) (.fldA 0 (tm p3)) 0, s1 (some p15) (.ld (tm p14)) 1, s1 (some p16) (.conv .u64 (tm p15)) 2, s1 (some p17) (.fldA 1 (tm p3)) 3, s1 (some p18) (.ld (tm p17)) 4, s1 (some p19) (.conv .u64 (tm p18)) 5, s1 (some p20) (.fldA 2 (tm p3)) 6, s1 (some p21) (.ld (tm p20)) 7, s1 (some p22) (.conv .u64 (tm p21)) 8, s1 (some p23) (.fldA 3 (tm p3)) 9, s1 (some p24) (.ld (tm p23)) 10, s1 (some p25) (.conv .u64 (tm p24)) 11, s1 (some p26) (.fldA 4 (tm p3)) 12, s1 (some p27) (.ld (tm p26)) 13, s1 (some p28) (.conv .u64 (tm p27)) 14, s1 (some p29) (.bslice 35 1 5 [(CV.int .u64 (nn 0)), (CV.int .u64 (nn 0)), (CV.int .u64 (nn 0)), (CV.int .u64 (nn 0)), (CV.int .u64 (nn 0))] [(0, 1, (tm p16)), (1, 1, (tm p19)), (2, 1, (tm p22)), (3, 1, (tm p25)), (4, 1, (tm p28))]) 15, s1 (some p7) (.mv (tm p29)) 16])
  (CC.seq (CC.seq (CC.run [s1 (some p30) (.mv (tm p7)) 0, s1 (some p31) (.len false (tm p30)) 1, s1 (some p32) (.bin .sub (tm p31) (cn (i6 (nn 1)))) 2, s1 (some p8) (.mv (tm p32)) 3])
  (CC.block 0 (CC.loop (CC.seq (CC.seq (CC.run [s1 (some p33) (.mv (tm p8)) 0, s1 (some p34) (.bin .geq (tm p33) (cn (i6 (nn 0)))) 1])
  (CC.cond (tm p34) CC.skip
  (CC.exit 0)))
  (CC.seq (CC.block 1 (CC.seq (CC.run [s1 (some p37) (.call (cn (CV.fn 10 [] [])) []) 0, s1 (some p38) (.mv (tm p8)) 1, s1 (some p39) (.idxAS 2 (tm p37) (tm p38)) 2, s1 (some p40) (.ldn 2 (tm p39)) 3, s1 (some p9) (.new 44 [(i6 (nn 0)), (i6 (nn 0))]) 4, s1 none (.st 2 (tm p9) (tm p40)) 5])
  (CC.seq (CC.draw [] [⟨(some p42), (.mv (tm p0)), none, 0, false, true⟩, ⟨(some p43), (.fldA 0 (tm p9)), none, 1, false, true⟩, ⟨(some p44), (.ld (tm p43)), none, 2, false, true⟩, ⟨(some p45), (.fldA 1 (tm p9)), none, 3, false, true⟩, ⟨(some p46), (.ld (tm p45)), none, 4, false, true⟩, ⟨(some p47), (.mv (tm p7)), none, 5, false, true⟩, s1 (some p48) (.mv (tm p8)) 6, s1 (some p49) (.idxAS 1 (tm p47) (tm p48)) 7, s1 (some p50) (.ld (tm p49)) 8, s1 (some p51) (.call (cn (CV.fn 11 [] [])) [(tm p42), (tm p44), (tm p46), (tm p50), (cn (CV.fn 12 [] []))]) 9, s1 (some p41) (.mv (tm p51)) 10, ⟨(some p52), (.extr (tm p41) 0), none, 11, false, false⟩, ⟨(some p53), (.extr (tm p41) 1), none, 12, false, false⟩, s1 (some p10) (.mv (tm p52)) 13, s1 (some p11) (.mv (tm p53)) 14])
  (CC.seq (CC.seq (CC.run [s1 (some p54) (.mv (tm p11)) 0, s1 (some p55) (.bin .neq (tm p54) (cn (i6 (nn 0)))) 1])
  (CC.cond (tm p55) (CC.seq (CC.run [s1 (some p56) (.mv (tm p11)) 0, s1 (some p4) (.mv (cn (i6 (nn 0)))) 1, s1 (some p5) (.mv (tm p56)) 2])
  CC.ret)
  CC.skip))
  (CC.seq (CC.run [s1 (some p58) (.mv (tm p0)) 0, s1 (some p59) (.nilck (tm p58)) 1, s1 (some p60) (.fldA 0 (tm p59)) 2, s1 (some p61) (.ld (tm p60)) 3, s1 (some p62) (.mv (tm p10)) 4, s1 (some p63) (.mv (tm p6)) 5, s1 (some p64) (.call (cn (CV.fn 13 [] [])) [(tm p61), (tm p62), (tm p63)]) 6, s1 (some p57) (.mv (tm p64)) 7, s1 (some p65) (.extr (tm p57) 0) 8, s1 (some p66) (.extr (tm p57) 1) 9, s1 (some p6) (.mv (tm p65)) 10, s1 (some p11) (.mv (tm p66)) 11])
  (CC.seq (CC.run [s1 (some p67) (.mv (tm p11)) 0, s1 (some p68) (.bin .neq (tm p67) (cn (i6 (nn 0)))) 1])
  (CC.cond (tm p68) (CC.seq (CC.run [s1 (some p69) (.mv (tm p11)) 0, s1 (some p4) (.mv (cn (i6 (nn 0)))) 1, s1 (some p5) (.mv (tm p69)) 2])
  CC.ret)
  CC.skip)))))))
  (CC.run [s1 (some p35) (.mv (tm p8)) 0, s1 (some p36) (.bin .sub (tm p35) (cn (i6 (nn 1)))) 1, s1 (some p8) (.mv (tm p36)) 2]))))))
  (CC.seq (CC.run [s1 (some p70) (.mv (tm p6)) 0, s1 (some p4) (.mv (tm p70)) 1, s1 (some p5) (.mv (cn (i6 (nn 0)))) 2])
  CC.ret)))))), [CRes.tmp p4, CRes.tmp p5]⟩
theorem lit4_ok : fnO tys 4 Try.f4 = some lit4 := by kernel_rfl
noncomputable def lit5 : CFn :=
  ⟨5, 56, (CC.seq (CC.run [s1 (some p6) (.mv (cn (i6 (nn 0)))) 0, s1 (some p7) (.mv (cn (i6 (nn 0)))) 1])
  (CC.seq (CC.seq (CC.run [s1 (some p11) (.mv (tm p0)) 0, s1 (some p12) (.mv (tm p2)) 1, s1 (some p13) (.bslice 3 1 1 [(i6 (nn 0))] [(0, 1, (tm p12))]) 2, s1 (some p14) (.mv (tm p1)) 3, s1 (some p15) (.bslice 3 1 1 [(i6 (nn 0))] [(0, 1, (tm p14))]) 4, s1 (some p16) (.call (cn (CV.fn 14 [] [])) [(tm p11), (tm p13), (tm p15)]) 5, s1 (some p8) (.mv (tm p16)) 6])
  (CC.seq (CC.run [s1 (some p17) (.mv (tm p8)) 0, s1 (some p18) (.bin .neq (tm p17) (cn (i6 (nn 0)))) 1])
  (CC.cond (tm p18) (CC.seq (CC.run [s1 (some p19) (.mv (tm p8)) 0, s1 (some p6) (.mv (cn (i6 (nn 0)))) 1, s1 (some p7) (.mv (tm p19)) 2])
  CC.ret)
  CC.skip)))
  (CC.seq (CC.run [s1 (some p21) (.mv (tm p0)) 0, s1 (some p22) (.nilck (tm p21)) 1, s1 (some p23) (.fldA 0 (tm p22)) 2, s1 (some p24) (.ld (tm p23)) 3, s1 (some p25) (.mv (tm p1)) 4, s1 (some p26) (.mv (tm p2)) 5, s1 (some p27) (.call (cn (CV.fn 13 [] [])) [(tm p24), (tm p25), (tm p26)]) 6, s1 (some p20) (.mv (tm p27)) 7, s1 (some p28) (.extr (tm p20) 0) 8, s1 (some p29) (.extr (tm p20) 1) 9, s1 (some p9) (.mv (tm p28)) 10, s1 (some p10) (.mv (tm p29)) 11])
  (CC.seq (CC.seq (CC.run [s1 (some p30) (.mv (tm p10)) 0, s1 (some p31) (.bin .neq (tm p30) (cn (i6 (nn 0)))) 1])
  (CC.cond (tm p31) (CC.seq (CC.run [s1 (some p32) (.mv (tm p10)) 0, s1 (some p6) (.mv (cn (i6 (nn 0)))) 1, s1 (some p7) (.mv (tm p32)) 2])
  CC.ret)
  CC.skip))
  (CC.seq (CC.seq (CC.draw [] [⟨(some p34), (.mv (tm p0)), none, 0, false, false⟩, ⟨(some p35), (.nilck (tm p34)), none, 1, false, false⟩, ⟨(some p36), (.fldA 0 (tm p35)), none, 2, false, false⟩, ⟨(some p37), (.ld (tm p36)), none, 3, false, false⟩, ⟨(some p38), (.mv (tm p9)), none, 4, false, false⟩, s1 (some p39) (.call (cn (CV.fn 16 [] [])) [(cn (CV.fn 12 [] []))]) 5, s1 (some p40) (.call (cn (CV.fn 15 [] [])) [(tm p37), (tm p38), (tm p39)]) 6, s1 (some p33) (.mv (tm p40)) 7, ⟨(some p41), (.extr (tm p33) 0), none, 8, false, false⟩, ⟨(some p42), (.extr (tm p33) 1), none, 9, false, false⟩, s1 (some p9) (.mv (tm p41)) 10, s1 (some p10) (.mv (tm p42)) 11])
  (CC.seq (CC.run [s1 (some p43) (.mv (tm p10)) 0, s1 (some p44) (.bin .neq (tm p43) (cn (i6 (nn 0)))) 1])
  (CC.cond (tm p44) (CC.seq (CC.run [s1 (some p45) (.mv (tm p10)) 0, s1 (some p6) (.mv (cn (i6 (nn 0)))) 1, s1 (some p7) (.mv (tm p45)) 2])
  CC.ret)
  CC.skip)))
  (CC.seq (CC.draw [] [⟨(some p46), (.mv (tm p0)), none, 0, false, false⟩, ⟨(some p47), (.nilck (tm p46)), none, 1, false, false⟩, ⟨(some p48), (.fldA 0 (tm p47)), none, 2, false, false⟩, ⟨(some p49), (.ld (tm p48)), none, 3, false, false⟩, ⟨(some p50), (.mv (tm p9)), none, 4, false, false⟩, s1 (some p51) (.call (cn (CV.fn 16 [] [])) [(cn (CV.fn 18 [] []))]) 5, s1 (some p52) (.call (cn (CV.fn 16 [] [])) [(cn (CV.fn 12 [] []))]) 6, s1 (some p53) (.call (cn (CV.fn 17 [] [])) [(tm p49), (tm p50), (tm p51), (tm p52)]) 7, ⟨(some p54), (.extr (tm p53) 0), none, 8, false, false⟩, s1 (some p55) (.extr (tm p53) 1) 9, s1 (some p6) (.mv (tm p54)) 10, s1 (some p7) (.mv (tm p55)) 11])
  CC.ret)))))), [CRes.tmp p6, CRes.tmp p7]⟩
theorem lit5_ok : fnO tys 5 Try.f5 = some lit5 := by kernel_rfl
noncomputable def lit6 : CFn :=
  ⟨6, 24, (CC.seq (CC.run [s1 (some p2) (.mv (cn CV.nilp)) 0, s1 (some p3) (.mv (cn (i6 (nn 0)))) 1])
  (CC.seq (CC.seq (CC.run [s1 (some p6) (.mv (tm p0)) 0, s1 (some p7) (.bin .lss (tm p6) (cn (i6 (nn 0)))) 1, s1 (some p8) (.mv (tm p7)) 2, ⟨(some p9), (.mv (tm p0)), (some (p8, false)), 3, true, true⟩, ⟨(some p10), (.bin .gtr (tm p9) (cn (i6 (nn 4194304)))), (some (p8, false)), 4, true, true⟩, s1 (some p11) (.pick (tm p8) (cn (CV.bool true)) (tm p10)) 5])
  (CC.cond (tm p11) (CC.seq (CC.run [s1 (some p2) (.mv (cn CV.nilp)) 0, s1 (some p3) (.mv (cn (i6 (nn 1)))) 1])
  CC.ret)
  CC.skip))
  (CC.seq (CC.run [s1 (some p13) (.mv (tm p0)) 0, s1 (some p14) (.call (cn (CV.fn 19 [] [])) [(cn (i6 (nn 208))), (tm p13)]) 1, s1 (some p12) (.mv (tm p14)) 2, s1 (some p15) (.extr (tm p12) 0) 3, s1 (some p16) (.extr (tm p12) 1) 4, s1 (some p4) (.mv (tm p15)) 5, s1 (some p5) (.mv (tm p16)) 6])
  (CC.seq (CC.seq (CC.run [s1 (some p17) (.mv (tm p5)) 0, s1 (some p18) (.bin .neq (tm p17) (cn (i6 (nn 0)))) 1])
  (CC.cond (tm p18) (CC.seq (CC.run [s1 (some p19) (.mv (tm p5)) 0, s1 (some p2) (.mv (cn CV.nilp)) 1, s1 (some p3) (.mv (tm p19)) 2])
  CC.ret)
  CC.skip))
  (CC.seq (CC.run [s1 (some p20) (.mv (tm p4)) 0, s1 (some p21) .mkmap 1, s1 (some p22) (.build [CV.nilp, CV.nilm] [(0, 1, (tm p20)), (1, 1, (tm p21))]) 2, s1 (some p23) (.box 52 (tm p22)) 3, s1 (some p2) (.mv (tm p23)) 4, s1 (some p3) (.mv (cn (i6 (nn 0)))) 5])
  CC.ret))))), [CRes.tmp p2, CRes.tmp p3]⟩
theorem lit6_ok : fnO tys 6 Try.f6 = some lit6 := by kernel_rfl
noncomputable def lit7 : CFn :=
  ⟨7, 22, (CC.seq (CC.run [s1 (some p4) (.mv (cn (i6 (nn 0)))) 0, s1 (some p5) (.mv (cn (i6 (nn 0)))) 1])
  (CC.seq (CC.seq (CC.run [s1 (some p7) (.mv (tm p0)) 0, s1 (some p8) (.mv (tm p1)) 1, s1 (some p9) (.bslice 3 1 1 [(i6 (nn 0))] [(0, 1, (tm p8))]) 2, s1 (some p10) (.call (cn (CV.fn 14 [] [])) [(tm p7), (tm p9), (cn CV.nils)]) 3, s1 (some p6) (.mv (tm p10)) 4])
  (CC.seq (CC.run [s1 (some p11) (.mv (tm p6)) 0, s1 (some p12) (.bin .neq (tm p11) (cn (i6 (nn 0)))) 1])
  (CC.cond (tm p12) (CC.seq (CC.run [s1 (some p13) (.mv (tm p6)) 0, s1 (some p4) (.mv (cn (i6 (nn 0)))) 1, s1 (some p5) (.mv (tm p13)) 2])
  CC.ret)
  CC.skip)))
  (CC.seq (CC.run [s1 (some p14) (.mv (tm p0)) 0, s1 (some p15) (.nilck (tm p14)) 1, s1 (some p16) (.fldA 0 (tm p15)) 2, s1 (some p17) (.ld (tm p16)) 3, s1 (some p18) (.mv (tm p1)) 4, s1 (some p19) (.call (cn (CV.fn 20 [] [])) [(tm p17), (tm p18)]) 5, s1 (some p20) (.extr (tm p19) 0) 6, s1 (some p21) (.extr (tm p19) 1) 7, s1 (some p4) (.mv (tm p20)) 8, s1 (some p5) (.mv (tm p21)) 9])
  CC.ret))), [CRes.tmp p4, CRes.tmp p5]⟩
theorem lit7_ok : fnO tys 7 Try.f7 = some lit7 := by kernel_rfl
noncomputable def lit8 : CFn :=
  ⟨8, 24, (CC.seq (CC.run [s1 (some p4) (.new 37 [(CV.int .u64 (nn 0)), (CV.int .u64 (nn 0))]) 0, s1 (some p5) (.mv (cn (i6 (nn 0)))) 1])
  (CC.seq (CC.seq (CC.run [s1 (some p7) (.mv (tm p0)) 0, s1 (some p8) (.mv (tm p1)) 1, s1 (some p9) (.bslice 3 1 1 [(i6 (nn 0))] [(0, 1, (tm p8))]) 2, s1 (some p10) (.call (cn (CV.fn 14 [] [])) [(tm p7), (tm p9), (cn CV.nils)]) 3, s1 (some p6) (.mv (tm p10)) 4])
  (CC.seq (CC.run [s1 (some p11) (.mv (tm p6)) 0, s1 (some p12) (.bin .neq (tm p11) (cn (i6 (nn 0)))) 1])
  (CC.cond (tm p12) (CC.seq (CC.run [s1 (some p13) (.build [(CV.int .u64 (nn 0)), (CV.int .u64 (nn 0))] []) 0, s1 (some p14) (.mv (tm p6)) 1, s1 none (.st 2 (tm p4) (tm p13)) 2, s1 (some p5) (.mv (tm p14)) 3])
  CC.ret)
  CC.skip)))
  (CC.seq (CC.draw [] [⟨(some p15), (.mv (tm p0)), none, 0, false, false⟩, ⟨(some p16), (.nilck (tm p15)), none, 1, false, false⟩, ⟨(some p17), (.fldA 0 (tm p16)), none, 2, false, false⟩, ⟨(some p18), (.ld (tm p17)), none, 3, false, false⟩, ⟨(some p19), (.mv (tm p1)), none, 4, false, false⟩, s1 (some p20) (.call (cn (CV.fn 16 [] [])) [(cn (CV.fn 12 [] []))]) 5, s1 (some p21) (.call (cn (CV.fn 21 [] [])) [(tm p18), (tm p19), (tm p20)]) 6, ⟨(some p22), (.extr (tm p21) 0), none, 7, false, false⟩, s1 (some p23) (.extr (tm p21) 1) 8, s1 none (.st 2 (tm p4) (tm p22)) 9, s1 (some p5) (.mv (tm p23)) 10])
  CC.ret))), [CRes.cell p4 (some 2), CRes.tmp p5]⟩
theorem lit8_ok : fnO tys 8 Try.f8 = some lit8 := by kernel_rfl
noncomputable def lit9 : CFn :=
  ⟨9, 10, (CC.seq (CC.run [s1 (some p2) (.mv (cn (i6 (nn 0)))) 0])
  (CC.seq (CC.seq (CC.run [s1 (some p3) (.mv (tm p0)) 0, s1 (some p4) (.eqs false EK.ptr (tm p3) (cn CV.nilp)) 1])
  (CC.cond (tm p4) (CC.seq (CC.run [s1 (some p2) (.mv (cn (i6 (nn 0)))) 0])
  CC.ret)
  CC.skip))
  (CC.seq (CC.run [s1 (some p5) (.mv (tm p0)) 0, s1 (some p6) (.nilck (tm p5)) 1, s1 (some p7) (.fldA 0 (tm p6)) 2, s1 (some p8) (.ld (tm p7)) 3, s1 (some p9) (.call (cn (CV.fn 22 [] [])) [(tm p8)]) 4, s1 (some p2) (.mv (tm p9)) 5])
  CC.ret))), [CRes.tmp p2]⟩
theorem lit9_ok : fnO tys 9 Try.f9 = some lit9 := by kernel_rfl
noncomputable def lit10 : CFn :=
  ⟨10, 7, (CC.seq (CC.run [s1 (some p0) (.mv (cn CV.nils)) 0])
  (CC.seq (CC.run [s1 (some p1) (.build [(i6 (nn 0)), (i6 (nn 0))] [(0, 1, (cn (i6 (nn 0)))), (1, 1, (cn (i6 (nn 32))))]) 0, s1 (some p2) (.build [(i6 (nn 0)), (i6 (nn 0))] [(0, 1, (cn (i6 (nn 32)))), (1, 1, (cn (i6 (nn 32))))]) 1, s1 (some p3) (.build [(i6 (nn 0)), (i6 (nn 0))] [(0, 1, (cn (i6 (nn 64)))), (1, 1, (cn (i6 (nn 8))))]) 2, s1 (some p4) (.build [(i6 (nn 0)), (i6 (nn 0))] [(0, 1, (cn (i6 (nn 72)))), (1, 1, (cn (i6 (nn 16))))]) 3, s1 (some p5) (.build [(i6 (nn 0)), (i6 (nn 0))] [(0, 1, (cn (i6 (nn 88)))), (1, 1, (cn (i6 (nn 16))))]) 4, s1 (some p6) (.bslice 44 2 5 [(i6 (nn 0)), (i6 (nn 0)), (i6 (nn 0)), (i6 (nn 0)), (i6 (nn 0)), (i6 (nn 0)), (i6 (nn 0)), (i6 (nn 0)), (i6 (nn 0)), (i6 (nn 0))] [(0, 2, (tm p1)), (2, 2, (tm p2)), (4, 2, (tm p3)), (6, 2, (tm p4)), (8, 2, (tm p5))]) 5, s1 (some p0) (.mv (tm p6)) 6])
  CC.ret)), [CRes.tmp p0]⟩
theorem lit10_ok : fnO tys 10 Try.f10 = some lit10 := by kernel_rfl
noncomputable def lit11 : CFn :=
  ⟨11, 72, (CC.seq (CC.run [s1 (some p10) (.mv (cn (i6 (nn 0)))) 0, s1 (some p11) (.mv (cn (i6 (nn 0)))) 1])
  (CC.seq (CC.run [s1 (some p12) (.mv (cn (i6 (nn 1)))) 0])
  (CC.seq (CC.seq (CC.run [s1 (some p16) (.mv (tm p2)) 0, s1 (some p17) (.bin .sub (tm p16) (cn (i6 (nn 1)))) 1, s1 (some p13) (.mv (tm p17)) 2])
  (CC.block 0 (CC.loop (CC.seq (CC.seq (CC.run [s1 (some p18) (.mv (tm p13)) 0, s1 (some p19) (.bin .geq (tm p18) (cn (i6 (nn 0)))) 1])
  (CC.cond (tm p19) CC.skip
  (CC.exit 0)))
  (CC.seq (CC.block 1 (CC.seq (CC.draw [] [⟨(some p23), (.mv (tm p0)), none, 0, false, false⟩, ⟨(some p24), (.nilck (tm p23)), none, 1, false, false⟩, ⟨(some p25), (.fldA 0 (tm p24)), none, 2, false, false⟩, ⟨(some p26), (.ld (tm p25)), none, 3, false, false⟩, ⟨(some p27), (.mv (tm p4)), none, 4, false, true⟩, ⟨(some p28), (.mv (tm p1)), none, 5, false, true⟩, s1 (some p29) (.mv (tm p13)) 6, s1 (some p30) (.bin .add (tm p28) (tm p29)) 7, s1 (some p31) (.call (tm p27) [(tm p30)]) 8, s1 (some p32) (.call (cn (CV.fn 23 [] [])) [(tm p26), (tm p31)]) 9, s1 (some p22) (.mv (tm p32)) 10, ⟨(some p33), (.extr (tm p22) 0), none, 11, false, false⟩, ⟨(some p34), (.extr (tm p22) 1), none, 12, false, false⟩, s1 (some p14) (.mv (tm p33)) 13, s1 (some p15) (.mv (tm p34)) 14])
  (CC.seq (CC.seq (CC.run [s1 (some p35) (.mv (tm p15)) 0, s1 (some p36) (.bin .neq (tm p35) (cn (i6 (nn 0)))) 1])
  (CC.cond (tm p36) (CC.seq (CC.run [s1 (some p37) (.mv (tm p15)) 0, s1 (some p10) (.mv (cn (i6 (nn 0)))) 1, s1 (some p11) (.mv (tm p37)) 2])
  CC.ret)
  CC.skip))
  (CC.seq (CC.seq (CC.run [s1 (some p38) (.mv (tm p3)) 0, s1 (some p39) (.mv (tm p2)) 1, s1 (some p40) (.bin .sub (tm p39) (cn (i6 (nn 1)))) 2, s1 (some p41) (.mv (tm p13)) 3, s1 (some p42) (.bin .sub (tm p40) (tm p41)) 4, s1 (some p43) (.bin .shr (tm p38) (tm p42)) 5, s1 (some p44) (.bin .and (tm p43) (cn (CV.int .u64 (nn 1)))) 6, s1 (some p45) (.bin .eql (tm p44) (cn (CV.int .u64 (nn 0)))) 7])
  (CC.cond (tm p45) (CC.seq (CC.run [s1 (some p47) (.mv (tm p0)) 0, s1 (some p48) (.nilck (tm p47)) 1, s1 (some p49) (.fldA 0 (tm p48)) 2, s1 (some p50) (.ld (tm p49)) 3, s1 (some p51) (.mv (tm p14)) 4, s1 (some p52) (.call (cn (CV.fn 20 [] [])) [(tm p50), (tm p51)]) 5, s1 (some p46) (.mv (tm p52)) 6, s1 (some p53) (.extr (tm p46) 0) 7, s1 (some p54) (.extr (tm p46) 1) 8, s1 (some p14) (.mv (tm p53)) 9, s1 (some p15) (.mv (tm p54)) 10])
  (CC.seq (CC.run [s1 (some p55) (.mv (tm p15)) 0, s1 (some p56) (.bin .neq (tm p55) (cn (i6 (nn 0)))) 1])
  (CC.cond (tm p56) (CC.seq (CC.run [s1 (some p57) (.mv (tm p15)) 0, s1 (some p10) (.mv (cn (i6 (nn 0)))) 1, s1 (some p11) (.mv (tm p57)) 2])
  CC.ret)
  CC.skip)))
  CC.skip))
  (CC.seq (CC.run [s1 (some p59) (.mv (tm p0)) 0, s1 (some p60) (.nilck (tm p59)) 1, s1 (some p61) (.fldA 0 (tm p60)) 2, s1 (some p62) (.ld (tm p61)) 3, s1 (some p63) (.mv (tm p14)) 4, s1 (some p64) (.mv (tm p12)) 5, s1 (some p65) (.call (cn (CV.fn 13 [] [])) [(tm p62), (tm p63), (tm p64)]) 6, s1 (some p58) (.mv (tm p65)) 7, s1 (some p66) (.extr (tm p58) 0) 8, s1 (some p67) (.extr (tm p58) 1) 9, s1 (some p12) (.mv (tm p66)) 10, s1 (some p15) (.mv (tm p67)) 11])
  (CC.seq (CC.run [s1 (some p68) (.mv (tm p15)) 0, s1 (some p69) (.bin .neq (tm p68) (cn (i6 (nn 0)))) 1])
  (CC.cond (tm p69) (CC.seq (CC.run [s1 (some p70) (.mv (tm p15)) 0, s1 (some p10) (.mv (cn (i6 (nn 0)))) 1, s1 (some p11) (.mv (tm p70)) 2])
  CC.ret)
  CC.skip)))))))
  (CC.run [s1 (some p20) (.mv (tm p13)) 0, s1 (some p21) (.bin .sub (tm p20) (cn (i6 (nn 1)))) 1, s1 (some p13) (.mv (tm p21)) 2]))))))
  (CC.seq (CC.run [s1 (some p71) (.mv (tm p12)) 0, s1 (some p10) (.mv (tm p71)) 1, s1 (some p11) (.mv (cn (i6 (nn 0)))) 2])
  CC.ret)))), [CRes.tmp p10, CRes.tmp p11]⟩
theorem lit11_ok : fnO tys 11 Try.f11 = some lit11 := by kernel_rfl
noncomputable def lit12 : CFn :=
  ⟨12, 5, (CC.seq (CC.run [s1 (some p2) (.mv (cn (i6 (nn 0)))) 0])
  (CC.seq (CC.run [s1 (some p3) (.mv (tm p0)) 0, s1 (some p4) (.bin .mul (cn (i6 (nn 2))) (tm p3)) 1, s1 (some p2) (.mv (tm p4)) 2])
  CC.ret)), [CRes.tmp p2]⟩
theorem lit12_ok : fnO tys 12 Try.f12 = some lit12 := by kernel_rfl
noncomputable def lit13 : CFn :=
  ⟨13, 14, (CC.seq (CC.run [s1 (some p6) (.mv (cn (i6 (nn 0)))) 0, s1 (some p7) (.mv (cn (i6 (nn 0)))) 1])
  (CC.seq (CC.run [s1 (some p8) (.mv (tm p0)) 0, s1 (some p9) (.mv (tm p1)) 1, s1 (some p10) (.mv (tm p2)) 2, s1 (some p11) (.call (cn (CV.fn 24 [] [])) [(tm p8), (tm p9), (tm p10), (cn (i6 (nn 0)))]) 3, s1 (some p12) (.extr (tm p11) 0) 4, s1 (some p13) (.extr (tm p11) 1) 5, s1 (some p6) (.mv (tm p12)) 6, s1 (some p7) (.mv (tm p13)) 7])
  CC.ret)), [CRes.tmp p6, CRes.tmp p7]⟩
theorem lit13_ok : fnO tys 13 Try.f13 = some lit13 := by kernel_rfl
noncomputable def lit14 : CFn :=
  ⟨14, 89, (CC.seq (CC.run [s1 (some p6) (.mv (cn (i6 (nn 0)))) 0])
  (CC.seq (CC.seq (CC.run [s1 (some p17) (.mv (tm p0)) 0, s1 (some p18) (.eqs false EK.ptr (tm p17) (cn CV.nilp)) 1])
  (CC.cond (tm p18) (CC.seq (CC.run [s1 (some p6) (.mv (cn (i6 (nn 2)))) 0])
  CC.ret)
  CC.skip))
  (CC.seq (CC.seq (CC.run [s1 (some p19) (.mv (tm p2)) 0, s1 (some p20) (.len false (tm p19)) 1, s1 (some p21) (.mv (cn (i6 (nn 0)))) 2])
  (CC.block 0 (CC.loop (CC.seq (CC.run [s1 (some p22) (.bin .lss (tm p21) (tm p20)) 0])
  (CC.seq (CC.cond (tm p22) CC.skip
  (CC.exit 0))
  (CC.seq (CC.block 1 (CC.seq (CC.run [s1 (some p23) (.idxAS 1 (tm p19) (tm p21)) 0, s1 (some p24) (.ld (tm p23)) 1, s1 (some p8) (.mv (tm p24)) 2])
  (CC.seq (CC.seq (CC.run [s1 (some p25) (.mv (tm p0)) 0, s1 (some p26) (.nilck (tm p25)) 1, s1 (some p27) (.fldA 1 (tm p26)) 2, s1 (some p28) (.ld (tm p27)) 3, s1 (some p29) (.mv (tm p8)) 4, s1 (some p30) (.look KK.int (i6 (nn 0)) false (tm p28) (tm p29)) 5, s1 (some p31) (.bin .geq (tm p30) (cn (i6 (nn 1)))) 6])
  (CC.cond (tm p31) (CC.exit 1)
  CC.skip))
  (CC.seq (CC.seq (CC.run [s1 (some p33) (.mv (tm p0)) 0, s1 (some p34) (.nilck (tm p33)) 1, s1 (some p35) (.fldA 0 (tm p34)) 2, s1 (some p36) (.ld (tm p35)) 3, s1 (some p37) (.mv (tm p8)) 4, s1 (some p38) (.call (cn (CV.fn 25 [] [])) [(tm p36), (tm p37)]) 5, s1 (some p32) (.mv (tm p38)) 6, s1 (some p39) (.extr (tm p32) 0) 7, s1 (some p40) (.extr (tm p32) 1) 8, s1 (some p9) (.mv (tm p39)) 9, s1 (some p10) (.mv (tm p40)) 10])
  (CC.seq (CC.run [s1 (some p41) (.mv (tm p10)) 0, s1 (some p42) (.bin .neq (tm p41) (cn (i6 (nn 0)))) 1])
  (CC.cond (tm p42) (CC.seq (CC.run [s1 (some p6) (.mv (cn (i6 (nn 1)))) 0])
  CC.ret)
  CC.skip)))
  (CC.run [s1 (some p43) (.mv (tm p0)) 0, s1 (some p44) (.nilck (tm p43)) 1, s1 (some p45) (.fldA 1 (tm p44)) 2, s1 (some p46) (.ld (tm p45)) 3, s1 (some p47) (.mv (tm p8)) 4, s1 none (.mupd KK.int (tm p46) (tm p47) (cn (i6 (nn 1)))) 5])))))
  (CC.run [s1 (some p48) (.bin .add (tm p21) (cn (i6 (nn 1)))) 0, s1 (some p21) (.mv (tm p48)) 1])))))))
  (CC.seq (CC.seq (CC.run [s1 (some p49) (.mv (tm p1)) 0, s1 (some p50) (.len false (tm p49)) 1, s1 (some p51) (.mv (cn (i6 (nn 0)))) 2])
  (CC.block 2 (CC.loop (CC.seq (CC.run [s1 (some p52) (.bin .lss (tm p51) (tm p50)) 0])
  (CC.seq (CC.cond (tm p52) CC.skip
  (CC.exit 2))
  (CC.seq (CC.block 3 (CC.seq (CC.run [s1 (some p53) (.idxAS 1 (tm p49) (tm p51)) 0, s1 (some p54) (.ld (tm p53)) 1, s1 (some p12) (.mv (tm p54)) 2])
  (CC.seq (CC.seq (CC.run [s1 (some p55) (.mv (tm p0)) 0, s1 (some p56) (.nilck (tm p55)) 1, s1 (some p57) (.fldA 1 (tm p56)) 2, s1 (some p58) (.ld (tm p57)) 3, s1 (some p59) (.mv (tm p12)) 4, s1 (some p60) (.look KK.int (i6 (nn 0)) false (tm p58) (tm p59)) 5, s1 (some p61) (.bin .eql (tm p60) (cn (i6 (nn 2)))) 6])
  (CC.cond (tm p61) (CC.exit 3)
  CC.skip))
  (CC.seq (CC.run [s1 (some p63) (.mv (tm p0)) 0, s1 (some p64) (.nilck (tm p63)) 1, s1 (some p65) (.fldA 0 (tm p64)) 2, s1 (some p66) (.ld (tm p65)) 3, s1 (some p67) (.mv (tm p12)) 4, s1 (some p68) (.call (cn (CV.fn 26 [] [])) [(tm p66), (tm p67)]) 5, s1 (some p62) (.mv (tm p68)) 6, s1 (some p69) (.extr (tm p62) 0) 7, s1 (some p70) (.extr (tm p62) 1) 8, s1 (some p13) (.mv (tm p69)) 9, s1 (some p14) (.mv (tm p70)) 10])
  (CC.seq (CC.seq (CC.run [s1 (some p71) (.mv (tm p14)) 0, s1 (some p72) (.bin .neq (tm p71) (cn (i6 (nn 0)))) 1])
  (CC.cond (tm p72) (CC.seq (CC.run [s1 (some p6) (.mv (cn (i6 (nn 1)))) 0])
  CC.ret)
  CC.skip))
  (CC.seq (CC.seq (CC.run [s1 (some p73) (.mv (tm p13)) 0, s1 (some p74) (.len false (tm p73)) 1, s1 (some p75) (.mv (cn (i6 (nn 0)))) 2])
  (CC.block 4 (CC.loop (CC.seq (CC.run [s1 (some p76) (.bin .lss (tm p75) (tm p74)) 0])
  (CC.seq (CC.cond (tm p76) CC.skip
  (CC.exit 4))
  (CC.seq (CC.block 5 (CC.seq (CC.run [s1 (some p77) (.idxAS 1 (tm p73) (tm p75)) 0, s1 (some p78) (.ld (tm p77)) 1, s1 (some p16) (.mv (tm p78)) 2])
  (CC.seq (CC.run [s1 (some p79) (.mv (tm p16)) 0, s1 (some p80) (.bin .rem (tm p79) (cn (i6 (nn 2)))) 1, s1 (some p81) (.bin .eql (tm p80) (cn (i6 (nn 1)))) 2])
  (CC.cond (tm p81) (CC.seq (CC.run [s1 (some p6) (.mv (cn (i6 (nn 1)))) 0])
  CC.ret)
  CC.skip))))
  (CC.run [s1 (some p82) (.bin .add (tm p75) (cn (i6 (nn 1)))) 0, s1 (some p75) (.mv (tm p82)) 1])))))))
  (CC.run [s1 (some p83) (.mv (tm p0)) 0, s1 (some p84) (.nilck (tm p83)) 1, s1 (some p85) (.fldA 1 (tm p84)) 2, s1 (some p86) (.ld (tm p85)) 3, s1 (some p87) (.mv (tm p12)) 4, s1 none (.mupd KK.int (tm p86) (tm p87) (cn (i6 (nn 2)))) 5])))))))
  (CC.run [s1 (some p88) (.bin .add (tm p51) (cn (i6 (nn 1)))) 0, s1 (some p51) (.mv (tm p88)) 1])))))))
  (CC.seq (CC.run [s1 (some p6) (.mv (cn (i6 (nn 0)))) 0])
  CC.ret))))), [CRes.tmp p6]⟩
theorem lit14_ok : fnO tys 14 Try.f14 = some lit14 := by kernel_rfl
noncomputable def lit15 : CFn :=
  ⟨15, 15, (CC.seq (CC.run [s1 (some p3) (.box 49 (tm p0)) 0, s1 (some p6) (.mv (cn (i6 (nn 0)))) 1, s1 (some p7) (.mv (cn (i6 (nn 0)))) 2])
  (CC.seq (CC.run [s1 (some p8) (.ld (tm p3)) 0, s1 (some p9) (.mv (tm p1)) 1, s1 (some p10) (.mv (tm p2)) 2, s1 (some p11) (.mkfn 28 [] [(tm p3)]) 3, s1 (some p12) (.call (cn (CV.fn 27 [] [])) [(tm p8), (tm p9), (tm p10), (tm p11)]) 4, s1 (some p13) (.extr (tm p12) 0) 5, s1 (some p14) (.extr (tm p12) 1) 6, s1 (some p6) (.mv (tm p13)) 7, s1 (some p7) (.mv (tm p14)) 8])
  CC.ret)), [CRes.tmp p6, CRes.tmp p7]⟩
theorem lit15_ok : fnO tys 15 Try.f15 = some lit15 := by kernel_rfl
noncomputable def lit16 : CFn :=
  ⟨16, 16, (CC.seq (CC.run [s1 (some p2) (.mv (cn CV.nils)) 0])
  (CC.seq (CC.run [s1 (some p3) (.mv (cn CV.nils)) 0])
  (CC.seq (CC.seq (CC.run [s1 (some p5) (.mv (cn (i6 (nn 0)))) 0])
  (CC.block 0 (CC.loop (CC.seq (CC.run [s1 (some p6) (.bin .lss (tm p5) (cn (i6 (nn 104)))) 0])
  (CC.seq (CC.cond (tm p6) CC.skip
  (CC.exit 0))
  (CC.seq (CC.block 1 (CC.seq (CC.run [s1 (some p7) (.mv (tm p5)) 0, s1 (some p4) (.mv (tm p7)) 1])
  (CC.run [s1 (some p8) (.mv (tm p3)) 0, s1 (some p9) (.mv (tm p0)) 1, s1 (some p10) (.mv (tm p4)) 2, s1 (some p11) (.call (tm p9) [(tm p10)]) 3, s1 (some p12) (.bslice 3 1 1 [(i6 (nn 0))] [(0, 1, (tm p11))]) 4, s1 (some p13) (.app 3 1 8 (tm p8) (tm p12)) 5, s1 (some p3) (.mv (tm p13)) 6])))
  (CC.run [s1 (some p14) (.bin .add (tm p5) (cn (i6 (nn 1)))) 0, s1 (some p5) (.mv (tm p14)) 1])))))))
  (CC.seq (CC.run [s1 (some p15) (.mv (tm p3)) 0, s1 (some p2) (.mv (tm p15)) 1])
  CC.ret)))), [CRes.tmp p2]⟩
theorem lit16_ok : fnO tys 16 Try.f16 = some lit16 := by kernel_rfl
noncomputable def lit17 : CFn :=
  ⟨17, 74, (CC.seq (CC.run [s1 (some p4) (.box 49 (tm p0)) 0, s1 (some p8) (.mv (cn (i6 (nn 0)))) 1, s1 (some p9) (.mv (cn (i6 (nn 0)))) 2])
  (CC.seq (CC.seq (CC.run [s1 (some p16) (.ld (tm p4)) 0, s1 (some p17) (.mv (tm p1)) 1, s1 (some p18) (.bslice 3 1 1 [(i6 (nn 0))] [(0, 1, (tm p17))]) 2, s1 (some p19) (.call (cn (CV.fn 30 [] [])) [(tm p16), (tm p18)]) 3, s1 (some p10) (.mv (tm p19)) 4])
  (CC.seq (CC.run [s1 (some p20) (.mv (tm p10)) 0, s1 (some p21) (.bin .neq (tm p20) (cn (i6 (nn 0)))) 1])
  (CC.cond (tm p21) (CC.seq (CC.run [s1 (some p22) (.mv (tm p10)) 0, s1 (some p8) (.mv (cn (i6 (nn 0)))) 1, s1 (some p9) (.mv (tm p22)) 2])
  CC.ret)
  CC.skip)))
  (CC.seq (CC.seq (CC.run [s1 (some p23) (.mv (tm p2)) 0, s1 (some p24) (.len false (tm p23)) 1, s1 (some p25) (.mv (tm p3)) 2, s1 (some p26) (.len false (tm p25)) 3, s1 (some p27) (.bin .neq (tm p24) (tm p26)) 4, s1 (some p28) (.mv (tm p27)) 5, ⟨(some p29), (.ld (tm p4)), (some (p28, false)), 6, true, true⟩, ⟨(some p30), (.mv (tm p2)), (some (p28, false)), 7, true, true⟩, ⟨(some p31), (.call (cn (CV.fn 31 [] [])) [(tm p29), (tm p30)]), (some (p28, false)), 8, true, true⟩, ⟨(some p32), (.not (tm p31)), (some (p28, false)), 9, true, true⟩, s1 (some p33) (.pick (tm p28) (cn (CV.bool true)) (tm p32)) 10, s1 (some p34) (.mv (tm p33)) 11, ⟨(some p35), (.ld (tm p4)), (some (p34, false)), 12, true, true⟩, ⟨(some p36), (.mv (tm p3)), (some (p34, false)), 13, true, true⟩, ⟨(some p37), (.call (cn (CV.fn 31 [] [])) [(tm p35), (tm p36)]), (some (p34, false)), 14, true, true⟩, ⟨(some p38), (.not (tm p37)), (some (p34, false)), 15, true, true⟩, s1 (some p39) (.pick (tm p34) (cn (CV.bool true)) (tm p38)) 16])
  (CC.cond (tm p39) (CC.seq (CC.run [s1 (some p8) (.mv (cn (i6 (nn 0)))) 0, s1 (some p9) (.mv (cn (i6 (nn 1)))) 1])
  CC.ret)
  CC.skip))
  (CC.seq (CC.run [s1 (some p40) .mkmap 0, s1 (some p11) (.new 69 [CV.nilm]) 1, s1 none (.st 1 (tm p11) (tm p40)) 2])
  (CC.seq (CC.seq (CC.run [s1 (some p41) (.mv (tm p2)) 0, s1 (some p42) (.len false (tm p41)) 1, s1 (some p43) (.mv (cn (i6 (nn 0)))) 2])
  (CC.block 0 (CC.loop (CC.seq (CC.run [s1 (some p44) (.bin .lss (tm p43) (tm p42)) 0])
  (CC.seq (CC.cond (tm p44) CC.skip
  (CC.exit 0))
  (CC.seq (CC.block 1 (CC.seq (CC.run [s1 (some p45) (.mv (tm p43)) 0, s1 (some p46) (.idxAS 1 (tm p41) (tm p43)) 1, s1 (some p47) (.ld (tm p46)) 2, s1 (some p12) (.mv (tm p45)) 3, s1 (some p13) (.mv (tm p47)) 4])
  (CC.seq (CC.seq (CC.run [s1 (some p49) (.ld (tm p11)) 0, s1 (some p50) (.mv (tm p13)) 1, s1 (some p51) (.conv .i32 (tm p50)) 2, s1 (some p52) (.look KK.int (i3 (nn 0)) true (tm p49) (tm p51)) 3, s1 (some p48) (.mv (tm p52)) 4, s1 (some p53) (.extr (tm p48) 0) 5, s1 (some p54) (.extr (tm p48) 1) 6, s1 (some p14) (.mv (tm p53)) 7, s1 (some p15) (.mv (tm p54)) 8])
  (CC.seq (CC.run [s1 (some p55) (.mv (tm p15)) 0])
  (CC.cond (tm p55) (CC.seq (CC.run [s1 (some p8) (.mv (cn (i6 (nn 0)))) 0, s1 (some p9) (.mv (cn (i6 (nn 1)))) 1])
  CC.ret)
  CC.skip)))
  (CC.draw [] [⟨(some p56), (.ld (tm p11)), none, 0, false, true⟩, ⟨(some p57), (.mv (tm p13)), none, 1, false, true⟩, ⟨(some p58), (.conv .i32 (tm p57)), none, 2, false, true⟩, ⟨(some p59), (.mv (tm p3)), none, 3, false, true⟩, s1 (some p60) (.mv (tm p12)) 4, s1 (some p61) (.idxAS 1 (tm p59) (tm p60)) 5, s1 (some p62) (.ld (tm p61)) 6, s1 (some p63) (.conv .i32 (tm p62)) 7, s1 none (.mupd KK.int (tm p56) (tm p58) (tm p63)) 8]))))
  (CC.run [s1 (some p64) (.bin .add (tm p43) (cn (i6 (nn 1)))) 0, s1 (some p43) (.mv (tm p64)) 1])))))))
  (CC.seq (CC.draw [] [⟨(some p65), (.ld (tm p4)), none, 0, false, false⟩, ⟨(some p66), (.ld (tm p4)), none, 1, false, true⟩, ⟨(some p67), (.mv (tm p1)), none, 2, false, true⟩, ⟨(some p68), (.conv .i32 (tm p67)), none, 3, false, true⟩, s1 (some p69) (.mkfn 34 [] [(tm p11), (tm p4)]) 4, s1 (some p70) (.call (cn (CV.fn 33 [] [])) [(tm p66), (tm p68), (tm p69)]) 5, s1 (some p71) (.call (cn (CV.fn 32 [] [])) [(tm p65), (tm p70)]) 6, ⟨(some p72), (.extr (tm p71) 0), none, 7, false, false⟩, s1 (some p73) (.extr (tm p71) 1) 8, s1 (some p8) (.mv (tm p72)) 9, s1 (some p9) (.mv (tm p73)) 10])
  CC.ret)))))), [CRes.tmp p8, CRes.tmp p9]⟩
theorem lit17_ok : fnO tys 17 Try.f17 = some lit17 := by kernel_rfl
noncomputable def lit18 : CFn :=
  ⟨18, 6, (CC.seq (CC.run [s1 (some p2) (.mv (cn (i6 (nn 0)))) 0])
  (CC.seq (CC.run [s1 (some p3) (.mv (tm p0)) 0, s1 (some p4) (.bin .mul (cn (i6 (nn 2))) (tm p3)) 1, s1 (some p5) (.bin .add (tm p4) (cn (i6 (nn 1)))) 2, s1 (some p2) (.mv (tm p5)) 3])
  CC.ret)), [CRes.tmp p2]⟩
theorem lit18_ok : fnO tys 18 Try.f18 = some lit18 := by kernel_rfl
noncomputable def lit19 : CFn :=
  ⟨19, 34, (CC.seq (CC.run [s1 (some p4) (.mv (cn CV.nilp)) 0, s1 (some p5) (.mv (cn (i6 (nn 0)))) 1])
  (CC.seq (CC.seq (CC.run [s1 (some p7) (.mv (tm p0)) 0, s1 (some p8) (.bin .lss (tm p7) (cn (i6 (nn 0)))) 1, s1 (some p9) (.mv (tm p8)) 2, ⟨(some p10), (.mv (tm p0)), (some (p9, false)), 3, true, true⟩, ⟨(some p11), (.bin .gtr (tm p10) (cn (i6 (nn 256)))), (some (p9, false)), 4, true, true⟩, s1 (some p12) (.pick (tm p9) (cn (CV.bool true)) (tm p11)) 5, s1 (some p13) (.mv (tm p12)) 6, ⟨(some p14), (.mv (tm p1)), (some (p13, false)), 7, true, true⟩, ⟨(some p15), (.bin .lss (tm p14) (cn (i6 (nn 0)))), (some (p13, false)), 8, true, true⟩, s1 (some p16) (.pick (tm p13) (cn (CV.bool true)) (tm p15)) 9, s1 (some p17) (.mv (tm p16)) 10, ⟨(some p18), (.mv (tm p1)), (some (p17, false)), 11, true, true⟩, ⟨(some p19), (.bin .gtr (tm p18) (cn (i6 (nn 4194304)))), (some (p17, false)), 12, true, true⟩, s1 (some p20) (.pick (tm p17) (cn (CV.bool true)) (tm p19)) 13])
  (CC.cond (tm p20) (CC.seq (CC.run [s1 (some p4) (.mv (cn CV.nilp)) 0, s1 (some p5) (.mv (cn (i6 (nn 1)))) 1])
  CC.ret)
  CC.skip))
  (CC.seq (CC.run [s1 (some p21) (.build [(i3 (nn 0)), (i3 (nn 0)), (i3 (nn 0))] [(0, 1, (cn (i3 (nn 256))))]) 0, s1 (some p22) (.build [(i3 (nn 0)), (i3 (nn 0)), (i3 (nn 0))] [(0, 1, (cn (i3 (nn 256))))]) 1, s1 (some p23) (.bslice 74 3 2 [(i3 (nn 0)), (i3 (nn 0)), (i3 (nn 0)), (i3 (nn 0)), (i3 (nn 0)), (i3 (nn 0))] [(0, 3, (tm p21)), (3, 3, (tm p22))]) 2, s1 (some p6) (.mv (tm p23)) 3])
  (CC.seq (CC.run [s1 (some p24) (.mv (tm p0)) 0, s1 (some p25) (.mv (tm p1)) 1, s1 (some p26) (.mv (tm p6)) 2, s1 (some p27) .mkmap 3, s1 (some p28) .mkmap 4, s1 (some p29) .mkmap 5, s1 none (.mupd KK.int (tm p29) (cn (i6 (nn 0))) (cn (CV.bool true))) 6, s1 none (.mupd KK.int (tm p29) (cn (i6 (nn 1))) (cn (CV.bool true))) 7, s1 (some p30) (.mv (tm p29)) 8, s1 (some p31) .mkmap 9, s1 (some p32) (.build [(i6 (nn 0)), (i6 (nn 0)), CV.nils, CV.nilm, CV.nilm, CV.nilm, CV.nilm] [(0, 1, (tm p24)), (1, 1, (tm p25)), (2, 1, (tm p26)), (3, 1, (tm p27)), (4, 1, (tm p28)), (5, 1, (tm p30)), (6, 1, (tm p31))]) 10, s1 (some p33) (.box 81 (tm p32)) 11, s1 (some p4) (.mv (tm p33)) 12, s1 (some p5) (.mv (cn (i6 (nn 0)))) 13])
  CC.ret)))), [CRes.tmp p4, CRes.tmp p5]⟩
theorem lit19_ok : fnO tys 19 Try.f19 = some lit19 := by kernel_rfl
noncomputable def lit20 : CFn :=
  ⟨20, 11, (CC.seq (CC.run [s1 (some p4) (.mv (cn (i6 (nn 0)))) 0, s1 (some p5) (.mv (cn (i6 (nn 0)))) 1])
  (CC.seq (CC.run [s1 (some p6) (.mv (tm p0)) 0, s1 (some p7) (.mv (tm p1)) 1, s1 (some p8) (.call (cn (CV.fn 24 [] [])) [(tm p6), (tm p7), (cn (i6 (nn 0))), (cn (i6 (nn 1)))]) 2, s1 (some p9) (.extr (tm p8) 0) 3, s1 (some p10) (.extr (tm p8) 1) 4, s1 (some p4) (.mv (tm p9)) 5, s1 (some p5) (.mv (tm p10)) 6])
  CC.ret)), [CRes.tmp p4, CRes.tmp p5]⟩
theorem lit20_ok : fnO tys 20 Try.f20 = some lit20 := by kernel_rfl
noncomputable def lit21 : CFn :=
  ⟨21, 46, (CC.seq (CC.run [s1 (some p3) (.box 49 (tm p0)) 0, s1 (some p5) (.box 54 (tm p2)) 1, s1 (some p6) (.new 37 [(CV.int .u64 (nn 0)), (CV.int .u64 (nn 0))]) 2, s1 (some p7) (.mv (cn (i6 (nn 0)))) 3])
  (CC.seq (CC.seq (CC.run [s1 (some p12) (.ld (tm p3)) 0, s1 (some p13) (.mv (tm p1)) 1, s1 (some p14) (.bslice 3 1 1 [(i6 (nn 0))] [(0, 1, (tm p13))]) 2, s1 (some p15) (.call (cn (CV.fn 30 [] [])) [(tm p12), (tm p14)]) 3, s1 (some p8) (.mv (tm p15)) 4])
  (CC.seq (CC.run [s1 (some p16) (.mv (tm p8)) 0, s1 (some p17) (.bin .neq (tm p16) (cn (i6 (nn 0)))) 1])
  (CC.cond (tm p17) (CC.seq (CC.run [s1 (some p18) (.build [(CV.int .u64 (nn 0)), (CV.int .u64 (nn 0))] []) 0, s1 (some p19) (.mv (tm p8)) 1, s1 none (.st 2 (tm p6) (tm p18)) 2, s1 (some p7) (.mv (tm p19)) 3])
  CC.ret)
  CC.skip)))
  (CC.seq (CC.seq (CC.run [s1 (some p20) (.ld (tm p3)) 0, s1 (some p21) (.mv (tm p1)) 1, s1 (some p22) (.ld (tm p5)) 2, s1 (some p23) (.call (cn (CV.fn 36 [] [])) [(tm p20), (tm p21), (tm p22)]) 3, s1 (some p24) (.not (tm p23)) 4, s1 (some p25) (.mv (tm p24)) 5, ⟨(some p26), (.ld (tm p5)), (some (p25, false)), 6, true, true⟩, ⟨(some p27), (.len false (tm p26)), (some (p25, false)), 7, true, true⟩, ⟨(some p28), (.bin .gtr (tm p27) (cn (i6 (nn 127)))), (some (p25, false)), 8, true, true⟩, s1 (some p29) (.pick (tm p25) (cn (CV.bool true)) (tm p28)) 9])
  (CC.cond (tm p29) (CC.seq (CC.run [s1 (some p30) (.build [(CV.int .u64 (nn 0)), (CV.int .u64 (nn 0))] []) 0, s1 none (.st 2 (tm p6) (tm p30)) 1, s1 (some p7) (.mv (cn (i6 (nn 1)))) 2])
  CC.ret)
  CC.skip))
  (CC.seq (CC.run [s1 (some p31) (.mkfn 37 [] [(tm p5), (tm p3)]) 0, s1 (some p9) (.new 84 [CV.nilf]) 1, s1 none (.st 1 (tm p9) (tm p31)) 2])
  (CC.seq (CC.run [s1 (some p32) .mkmap 0, s1 (some p33) (.build [(CV.int .u64 (nn 0)), (CV.int .u64 (nn 0))] []) 1, s1 none (.mupd KK.int (tm p32) (cn (i3 (nn 0))) (tm p33)) 2, s1 (some p34) (.build [(CV.int .u64 (nn 0)), (CV.int .u64 (nn 0))] [(1, 1, (cn (CV.int .u64 (nn 1))))]) 3, s1 none (.mupd KK.int (tm p32) (cn (i3 (nn 1))) (tm p34)) 4, s1 (some p35) (.mv (tm p32)) 5, s1 (some p10) (.new 85 [CV.nilm]) 6, s1 none (.st 1 (tm p10) (tm p35)) 7])
  (CC.seq (CC.run [s1 (some p11) (.new 86 [CV.nilf]) 0])
  (CC.seq (CC.run [s1 (some p36) (.mkfn 39 [] [(tm p10), (tm p3), (tm p11), (tm p9)]) 0, s1 none (.st 1 (tm p11) (tm p36)) 1])
  (CC.seq (CC.draw [] [⟨(some p37), (.ld (tm p11)), none, 0, false, true⟩, ⟨(some p38), (.mv (tm p1)), none, 1, false, true⟩, ⟨(some p39), (.conv .i32 (tm p38)), none, 2, false, true⟩, ⟨(some p41), (.ld (tm p9)), none, 4, false, false⟩, ⟨(some p42), (.mv (tm p1)), none, 5, false, false⟩, ⟨(some p43), (.conv .i32 (tm p42)), none, 6, false, false⟩, s1 (some p40) (.call (tm p37) [(tm p39)]) 3, s1 (some p44) (.call (tm p41) [(tm p43)]) 7, s1 (some p45) (.call (cn (CV.fn 40 [] [])) [(tm p40), (tm p44)]) 8, s1 none (.st 2 (tm p6) (tm p45)) 9, s1 (some p7) (.mv (cn (i6 (nn 0)))) 10])
  CC.ret)))))))), [CRes.cell p6 (some 2), CRes.tmp p7]⟩
theorem lit21_ok : fnO tys 21 Try.f21 = some lit21 := by kernel_rfl
noncomputable def lit22 : CFn :=
  ⟨22, 10, (CC.seq (CC.run [s1 (some p2) (.mv (cn (i6 (nn 0)))) 0])
  (CC.seq (CC.seq (CC.run [s1 (some p3) (.mv (tm p0)) 0, s1 (some p4) (.eqs false EK.ptr (tm p3) (cn CV.nilp)) 1])
  (CC.cond (tm p4) (CC.seq (CC.run [s1 (some p2) (.mv (cn (i6 (nn 0)))) 0])
  CC.ret)
  CC.skip))
  (CC.seq (CC.run [s1 (some p5) (.mv (tm p0)) 0, s1 (some p6) (.nilck (tm p5)) 1, s1 (some p7) (.fldA 6 (tm p6)) 2, s1 (some p8) (.ld (tm p7)) 3, s1 (some p9) (.mlen (tm p8)) 4, s1 (some p2) (.mv (tm p9)) 5])
  CC.ret))), [CRes.tmp p2]⟩
theorem lit22_ok : fnO tys 22 Try.f22 = some lit22 := by kernel_rfl
noncomputable def lit23 : CFn :=
  ⟨23, 28, (CC.seq (CC.run [s1 (some p4) (.mv (cn (i6 (nn 0)))) 0, s1 (some p5) (.mv (cn (i6 (nn 0)))) 1])
  (CC.seq (CC.block 0 (CC.seq (CC.run [s1 (some p7) (.mv (tm p0)) 0, s1 (some p8) (.eqs false EK.ptr (tm p7) (cn CV.nilp)) 1, s1 (some p6) (.mv (tm p8)) 2])
  (CC.cond (tm p6) (CC.seq (CC.run [s1 (some p4) (.mv (cn (i6 (nn 0)))) 0, s1 (some p5) (.mv (cn (i6 (nn 2)))) 1])
  CC.ret)
  (CC.seq (CC.run [s1 (some p10) (.mv (tm p1)) 0, s1 (some p11) (.bin .lss (tm p10) (cn (i6 (nn 0)))) 1, s1 (some p12) (.mv (tm p11)) 2, ⟨(some p13), (.mv (tm p1)), (some (p12, false)), 3, true, true⟩, ⟨(some p14), (.mv (tm p0)), (some (p12, false)), 4, true, true⟩, ⟨(some p15), (.nilck (tm p14)), (some (p12, false)), 5, true, true⟩, ⟨(some p16), (.fldA 0 (tm p15)), (some (p12, false)), 6, true, true⟩, ⟨(some p17), (.ld (tm p16)), (some (p12, false)), 7, true, true⟩, ⟨(some p18), (.bin .geq (tm p13) (tm p17)), (some (p12, false)), 8, true, true⟩, s1 (some p19) (.pick (tm p12) (cn (CV.bool true)) (tm p18)) 9, s1 (some p9) (.mv (tm p19)) 10])
  (CC.cond (tm p9) (CC.seq (CC.run [s1 (some p4) (.mv (cn (i6 (nn 0)))) 0, s1 (some p5) (.mv (cn (i6 (nn 1)))) 1])
  CC.ret)
  CC.skip)))))
  (CC.seq (CC.run [s1 (some p20) (.mv (tm p0)) 0, s1 (some p21) (.mv (tm p0)) 1, s1 (some p22) (.mv (tm p1)) 2, s1 (some p23) (.conv .i32 (tm p22)) 3, s1 (some p24) (.call (cn (CV.fn 35 [] [])) [(tm p21), (tm p23), (cn (i3 (nn 0))), (cn (i3 (nn 1)))]) 4, s1 (some p25) (.call (cn (CV.fn 32 [] [])) [(tm p20), (tm p24)]) 5, s1 (some p26) (.extr (tm p25) 0) 6, s1 (some p27) (.extr (tm p25) 1) 7, s1 (some p4) (.mv (tm p26)) 8, s1 (some p5) (.mv (tm p27)) 9])
  CC.ret))), [CRes.tmp p4, CRes.tmp p5]⟩
theorem lit23_ok : fnO tys 23 Try.f23 = some lit23 := by kernel_rfl
noncomputable def lit24 : CFn :=
  ⟨24, 32, (CC.seq (CC.run [s1 (some p8) (.mv (cn (i6 (nn 0)))) 0, s1 (some p9) (.mv (cn (i6 (nn 0)))) 1])
  (CC.seq (CC.seq (CC.run [s1 (some p11) (.mv (tm p0)) 0, s1 (some p12) (.mv (tm p1)) 1, s1 (some p13) (.mv (tm p2)) 2, s1 (some p14) (.mv (tm p3)) 3, s1 (some p15) (.bslice 3 1 3 [(i6 (nn 0)), (i6 (nn 0)), (i6 (nn 0))] [(0, 1, (tm p12)), (1, 1, (tm p13)), (2, 1, (tm p14))]) 4, s1 (some p16) (.call (cn (CV.fn 30 [] [])) [(tm p11), (tm p15)]) 5, s1 (some p10) (.mv (tm p16)) 6])
  (CC.seq (CC.run [s1 (some p17) (.mv (tm p10)) 0, s1 (some p18) (.bin .neq (tm p17) (cn (i6 (nn 0)))) 1])
  (CC.cond (tm p18) (CC.seq (CC.run [s1 (some p19) (.mv (tm p10)) 0, s1 (some p8) (.mv (cn (i6 (nn 0)))) 1, s1 (some p9) (.mv (tm p19)) 2])
  CC.ret)
  CC.skip)))
  (CC.seq (CC.run [s1 (some p20) (.mv (tm p0)) 0, s1 (some p21) (.mv (tm p0)) 1, s1 (some p22) (.mv (tm p1)) 2, s1 (some p23) (.conv .i32 (tm p22)) 3, s1 (some p24) (.mv (tm p2)) 4, s1 (some p25) (.conv .i32 (tm p24)) 5, s1 (some p26) (.mv (tm p3)) 6, s1 (some p27) (.conv .i32 (tm p26)) 7, s1 (some p28) (.call (cn (CV.fn 29 [] [])) [(tm p21), (tm p23), (tm p25), (tm p27)]) 8, s1 (some p29) (.call (cn (CV.fn 32 [] [])) [(tm p20), (tm p28)]) 9, s1 (some p30) (.extr (tm p29) 0) 10, s1 (some p31) (.extr (tm p29) 1) 11, s1 (some p8) (.mv (tm p30)) 12, s1 (some p9) (.mv (tm p31)) 13])
  CC.ret))), [CRes.tmp p8, CRes.tmp p9]⟩
theorem lit24_ok : fnO tys 24 Try.f24 = some lit24 := by kernel_rfl
noncomputable def lit25 : CFn :=
  ⟨25, 21, (CC.seq (CC.run [s1 (some p4) (.mv (cn (i6 (nn 0)))) 0, s1 (some p5) (.mv (cn (i6 (nn 0)))) 1])
  (CC.seq (CC.seq (CC.run [s1 (some p8) (.mv (tm p0)) 0, s1 (some p9) (.mv (tm p1)) 1, s1 (some p10) (.bslice 3 1 1 [(i6 (nn 0))] [(0, 1, (tm p9))]) 2, s1 (some p11) (.call (cn (CV.fn 30 [] [])) [(tm p8), (tm p10)]) 3, s1 (some p6) (.mv (tm p11)) 4])
  (CC.seq (CC.run [s1 (some p12) (.mv (tm p6)) 0, s1 (some p13) (.bin .neq (tm p12) (cn (i6 (nn 0)))) 1])
  (CC.cond (tm p13) (CC.seq (CC.run [s1 (some p14) (.mv (tm p6)) 0, s1 (some p4) (.mv (cn (i6 (nn 0)))) 1, s1 (some p5) (.mv (tm p14)) 2])
  CC.ret)
  CC.skip)))
  (CC.seq (CC.run [s1 (some p7) (.new 3 [(i6 (nn 0))]) 0, s1 none (.st 1 (tm p7) (cn (i6 (nn 0)))) 1])
  (CC.seq (CC.run [s1 (some p15) (.mv (tm p0)) 0, s1 (some p16) (.mv (tm p1)) 1, s1 (some p17) (.conv .i32 (tm p16)) 2, s1 (some p18) (.mkfn 43 [] [(tm p7)]) 3, s1 (some p19) (.call (cn (CV.fn 42 [] [])) [(tm p15), (tm p17), (tm p18)]) 4])
  (CC.seq (CC.run [s1 (some p20) (.ld (tm p7)) 0, s1 (some p4) (.mv (tm p20)) 1, s1 (some p5) (.mv (cn (i6 (nn 0)))) 2])
  CC.ret))))), [CRes.tmp p4, CRes.tmp p5]⟩
theorem lit25_ok : fnO tys 25 Try.f25 = some lit25 := by kernel_rfl
noncomputable def lit26 : CFn :=
  ⟨26, 24, (CC.seq (CC.run [s1 (some p2) (.box 49 (tm p0)) 0, s1 (some p4) (.mv (cn CV.nils)) 1, s1 (some p5) (.mv (cn (i6 (nn 0)))) 2])
  (CC.seq (CC.seq (CC.run [s1 (some p8) (.ld (tm p2)) 0, s1 (some p9) (.mv (tm p1)) 1, s1 (some p10) (.bslice 3 1 1 [(i6 (nn 0))] [(0, 1, (tm p9))]) 2, s1 (some p11) (.call (cn (CV.fn 30 [] [])) [(tm p8), (tm p10)]) 3, s1 (some p6) (.mv (tm p11)) 4])
  (CC.seq (CC.run [s1 (some p12) (.mv (tm p6)) 0, s1 (some p13) (.bin .neq (tm p12) (cn (i6 (nn 0)))) 1])
  (CC.cond (tm p13) (CC.seq (CC.run [s1 (some p14) (.mv (tm p6)) 0, s1 (some p4) (.mv (cn CV.nils)) 1, s1 (some p5) (.mv (tm p14)) 2])
  CC.ret)
  CC.skip)))
  (CC.seq (CC.run [s1 (some p7) (.new 54 [CV.nils]) 0])
  (CC.seq (CC.run [s1 (some p15) (.ld (tm p2)) 0, s1 (some p16) (.mv (tm p1)) 1, s1 (some p17) (.conv .i32 (tm p16)) 2, s1 (some p18) (.mkfn 44 [] [(tm p7), (tm p2)]) 3, s1 (some p19) (.call (cn (CV.fn 42 [] [])) [(tm p15), (tm p17), (tm p18)]) 4])
  (CC.seq (CC.run [s1 (some p20) (.ld (tm p7)) 0, s1 (some p21) (.call (cn (CV.fn 45 [] [])) [(tm p20)]) 1])
  (CC.seq (CC.run [s1 (some p22) (.ld (tm p7)) 0, s1 (some p23) (.call (cn (CV.fn 46 [] [])) [(tm p22)]) 1, s1 (some p4) (.mv (tm p23)) 2, s1 (some p5) (.mv (cn (i6 (nn 0)))) 3])
  CC.ret)))))), [CRes.tmp p4, CRes.tmp p5]⟩
theorem lit26_ok : fnO tys 26 Try.f26 = some lit26 := by kernel_rfl
noncomputable def lit27 : CFn :=
  ⟨27, 43, (CC.seq (CC.run [s1 (some p4) (.box 49 (tm p0)) 0, s1 (some p7) (.box 66 (tm p3)) 1, s1 (some p8) (.mv (cn (i6 (nn 0)))) 2, s1 (some p9) (.mv (cn (i6 (nn 0)))) 3])
  (CC.seq (CC.seq (CC.run [s1 (some p14) (.ld (tm p4)) 0, s1 (some p15) (.mv (tm p1)) 1, s1 (some p16) (.bslice 3 1 1 [(i6 (nn 0))] [(0, 1, (tm p15))]) 2, s1 (some p17) (.call (cn (CV.fn 30 [] [])) [(tm p14), (tm p16)]) 3, s1 (some p10) (.mv (tm p17)) 4])
  (CC.seq (CC.run [s1 (some p18) (.mv (tm p10)) 0, s1 (some p19) (.bin .neq (tm p18) (cn (i6 (nn 0)))) 1])
  (CC.cond (tm p19) (CC.seq (CC.run [s1 (some p20) (.mv (tm p10)) 0, s1 (some p8) (.mv (cn (i6 (nn 0)))) 1, s1 (some p9) (.mv (tm p20)) 2])
  CC.ret)
  CC.skip)))
  (CC.seq (CC.seq (CC.run [s1 (some p21) (.ld (tm p4)) 0, s1 (some p22) (.mv (tm p2)) 1, s1 (some p23) (.call (cn (CV.fn 31 [] [])) [(tm p21), (tm p22)]) 2, s1 (some p24) (.not (tm p23)) 3])
  (CC.cond (tm p24) (CC.seq (CC.run [s1 (some p8) (.mv (cn (i6 (nn 0)))) 0, s1 (some p9) (.mv (cn (i6 (nn 1)))) 1])
  CC.ret)
  CC.skip))
  (CC.seq (CC.run [s1 (some p11) (.new 96 [(CV.bool false), (CV.bool false), (CV.bool false), (CV.bool false), (CV.bool false), (CV.bool false), (CV.bool false), (CV.bool false), (CV.bool false), (CV.bool false), (CV.bool false), (CV.bool false), (CV.bool false), (CV.bool false), (CV.bool false), (CV.bool false), (CV.bool false), (CV.bool false), (CV.bool false), (CV.bool false), (CV.bool false), (CV.bool false), (CV.bool false), (CV.bool false), (CV.bool false), (CV.bool false), (CV.bool false), (CV.bool false), (CV.bool false), (CV.bool false), (CV.bool false), (CV.bool false), (CV.bool false), (CV.bool false), (CV.bool false), (CV.bool false), (CV.bool false), (CV.bool false), (CV.bool false), (CV.bool false), (CV.bool false), (CV.bool false), (CV.bool false), (CV.bool false), (CV.bool false), (CV.bool false), (CV.bool false), (CV.bool false), (CV.bool false), (CV.bool false), (CV.bool false), (CV.bool false), (CV.bool false), (CV.bool false), (CV.bool false), (CV.bool false), (CV.bool false), (CV.bool false), (CV.bool false), (CV.bool false), (CV.bool false), (CV.bool false), (CV.bool false), (CV.bool false), (CV.bool false), (CV.bool false), (CV.bool false), (CV.bool false), (CV.bool false), (CV.bool false), (CV.bool false), (CV.bool false), (CV.bool false), (CV.bool false), (CV.bool false), (CV.bool false), (CV.bool false), (CV.bool false), (CV.bool false), (CV.bool false), (CV.bool false), (CV.bool false), (CV.bool false), (CV.bool false), (CV.bool false), (CV.bool false), (CV.bool false), (CV.bool false), (CV.bool false), (CV.bool false), (CV.bool false), (CV.bool false), (CV.bool false), (CV.bool false), (CV.bool false), (CV.bool false), (CV.bool false), (CV.bool false), (CV.bool false), (CV.bool false), (CV.bool false), (CV.bool false), (CV.bool false), (CV.bool false), (CV.bool false), (CV.bool false), (CV.bool false), (CV.bool false), (CV.bool false), (CV.bool false), (CV.bool false), (CV.bool false), (CV.bool false), (CV.bool false), (CV.bool false), (CV.bool false), (CV.bool false), (CV.bool false), (CV.bool false), (CV.bool false), (CV.bool false), (CV.bool false), (CV.bool false), (CV.bool false), (CV.bool false), (CV.bool false), (CV.bool false), (CV.bool false), (CV.bool false), (CV.bool false), (CV.bool false), (CV.bool false), (CV.bool false), (CV.bool false), (CV.bool false), (CV.bool false), (CV.bool false), (CV.bool false), (CV.bool false), (CV.bool false), (CV.bool false), (CV.bool false), (CV.bool false), (CV.bool false), (CV.bool false), (CV.bool false), (CV.bool false), (CV.bool false), (CV.bool false), (CV.bool false), (CV.bool false), (CV.bool false), (CV.bool false), (CV.bool false), (CV.bool false), (CV.bool false), (CV.bool false), (CV.bool false), (CV.bool false), (CV.bool false), (CV.bool false), (CV.bool false), (CV.bool false), (CV.bool false), (CV.bool false), (CV.bool false), (CV.bool false), (CV.bool false), (CV.bool false), (CV.bool false), (CV.bool false), (CV.bool false), (CV.bool false), (CV.bool false), (CV.bool false), (CV.bool false), (CV.bool false), (CV.bool false), (CV.bool false), (CV.bool false), (CV.bool false), (CV.bool false), (CV.bool false), (CV.bool false), (CV.bool false), (CV.bool false), (CV.bool false), (CV.bool false), (CV.bool false), (CV.bool false), (CV.bool false), (CV.bool false), (CV.bool false), (CV.bool false), (CV.bool false), (CV.bool false), (CV.bool false), (CV.bool false), (CV.bool false), (CV.bool false), (CV.bool false), (CV.bool false), (CV.bool false), (CV.bool false), (CV.bool false), (CV.bool false), (CV.bool false), (CV.bool false), (CV.bool false), (CV.bool false), (CV.bool false), (CV.bool false), (CV.bool false), (CV.bool false), (CV.bool false), (CV.bool false), (CV.bool false), (CV.bool false), (CV.bool false), (CV.bool false), (CV.bool false), (CV.bool false), (CV.bool false), (CV.bool false), (CV.bool false), (CV.bool false), (CV.bool false), (CV.bool false), (CV.bool false), (CV.bool false), (CV.bool false), (CV.bool false), (CV.bool false), (CV.bool false), (CV.bool false), (CV.bool false), (CV.bool false), (CV.bool false), (CV.bool false), (CV.bool false), (CV.bool false), (CV.bool false), (CV.bool false), (CV.bool false), (CV.bool false), (CV.bool false), (CV.bool false), (CV.bool false), (CV.bool false), (CV.bool false), (CV.bool false), (CV.bool false), (CV.bool false), (CV.bool false), (CV.bool false), (CV.bool false)]) 0])
  (CC.seq (CC.seq (CC.run [s1 (some p25) (.mv (tm p2)) 0, s1 (some p26) (.len false (tm p25)) 1, s1 (some p27) (.mv (cn (i6 (nn 0)))) 2])
  (CC.block 0 (CC.loop (CC.seq (CC.run [s1 (some p28) (.bin .lss (tm p27) (tm p26)) 0])
  (CC.seq (CC.cond (tm p28) CC.skip
  (CC.exit 0))
  (CC.seq (CC.block 1 (CC.seq (CC.run [s1 (some p29) (.idxAS 1 (tm p25) (tm p27)) 0, s1 (some p30) (.ld (tm p29)) 1, s1 (some p13) (.mv (tm p30)) 2])
  (CC.run [s1 (some p31) (.mv (tm p13)) 0, s1 (some p32) (.idxAA 256 1 (tm p11) (tm p31)) 1, s1 none (.st 1 (tm p32) (cn (CV.bool true))) 2])))
  (CC.run [s1 (some p33) (.bin .add (tm p27) (cn (i6 (nn 1)))) 0, s1 (some p27) (.mv (tm p33)) 1])))))))
  (CC.seq (CC.draw [] [⟨(some p34), (.ld (tm p4)), none, 0, false, false⟩, ⟨(some p35), (.ld (tm p4)), none, 1, false, true⟩, ⟨(some p36), (.mv (tm p1)), none, 2, false, true⟩, ⟨(some p37), (.conv .i32 (tm p36)), none, 3, false, true⟩, s1 (some p38) (.mkfn 47 [] [(tm p11), (tm p7), (tm p4)]) 4, s1 (some p39) (.call (cn (CV.fn 33 [] [])) [(tm p35), (tm p37), (tm p38)]) 5, s1 (some p40) (.call (cn (CV.fn 32 [] [])) [(tm p34), (tm p39)]) 6, ⟨(some p41), (.extr (tm p40) 0), none, 7, false, false⟩, s1 (some p42) (.extr (tm p40) 1) 8, s1 (some p8) (.mv (tm p41)) 9, s1 (some p9) (.mv (tm p42)) 10])
  CC.ret)))))), [CRes.tmp p8, CRes.tmp p9]⟩
theorem lit27_ok : fnO tys 27 Try.f27 = some lit27 := by kernel_rfl
noncomputable def lit28 : CFn :=
  ⟨28, 10, (CC.seq (CC.run [s1 (some p5) (.mv (cn (i3 (nn 0)))) 0])
  (CC.seq (CC.run [s1 (some p6) (.ld (tm p2)) 0, s1 (some p7) (.mv (tm p0)) 1, s1 (some p8) (.mv (tm p1)) 2, s1 (some p9) (.call (cn (CV.fn 29 [] [])) [(tm p6), (tm p7), (cn (i3 (nn 1))), (tm p8)]) 3, s1 (some p5) (.mv (tm p9)) 4])
  CC.ret)), [CRes.tmp p5]⟩
theorem lit28_ok : fnO tys 28 Try.f28 = some lit28 := by kernel_rfl
noncomputable def lit29 : CFn :=
  ⟨29, 93, (CC.seq (CC.run [s1 (some p4) (.box 49 (tm p0)) 0, s1 (some p5) (.box 21 (tm p1)) 1, s1 (some p6) (.box 21 (tm p2)) 2, s1 (some p7) (.box 21 (tm p3)) 3, s1 (some p8) (.mv (cn (i3 (nn 0)))) 4])
  (CC.seq (CC.block 0 (CC.seq (CC.run [s1 (some p17) (.ld (tm p5)) 0, s1 (some p18) (.bin .eql (tm p17) (cn (i3 (nn 1)))) 1, s1 (some p19) (.mv (tm p18)) 2, ⟨(some p20), (.ld (tm p6)), (some (p19, false)), 3, true, true⟩, ⟨(some p21), (.ld (tm p7)), (some (p19, false)), 4, true, true⟩, ⟨(some p22), (.bin .eql (tm p20) (tm p21)), (some (p19, false)), 5, true, true⟩, s1 (some p23) (.pick (tm p19) (cn (CV.bool true)) (tm p22)) 6, s1 (some p16) (.mv (tm p23)) 7])
  (CC.cond (tm p16) (CC.seq (CC.run [s1 (some p24) (.ld (tm p6)) 0, s1 (some p8) (.mv (tm p24)) 1])
  CC.ret)
  (CC.seq (CC.run [s1 (some p26) (.ld (tm p5)) 0, s1 (some p27) (.bin .eql (tm p26) (cn (i3 (nn 0)))) 1, s1 (some p25) (.mv (tm p27)) 2])
  (CC.cond (tm p25) (CC.seq (CC.run [s1 (some p28) (.ld (tm p7)) 0, s1 (some p8) (.mv (tm p28)) 1])
  CC.ret)
  (CC.seq (CC.run [s1 (some p30) (.ld (tm p6)) 0, s1 (some p31) (.bin .eql (tm p30) (cn (i3 (nn 1)))) 1, s1 (some p32) (.mv (tm p31)) 2, ⟨(some p33), (.ld (tm p7)), (some (p32, true)), 3, true, true⟩, ⟨(some p34), (.bin .eql (tm p33) (cn (i3 (nn 0)))), (some (p32, true)), 4, true, true⟩, s1 (some p35) (.pick (tm p32) (tm p34) (cn (CV.bool false))) 5, s1 (some p29) (.mv (tm p35)) 6])
  (CC.cond (tm p29) (CC.seq (CC.run [s1 (some p36) (.ld (tm p5)) 0, s1 (some p8) (.mv (tm p36)) 1])
  CC.ret)
  CC.skip)))))))
  (CC.seq (CC.run [s1 (some p37) (.ld (tm p5)) 0, s1 (some p38) (.ld (tm p6)) 1, s1 (some p39) (.ld (tm p7)) 2, s1 (some p40) (.build [(i3 (nn 0)), (i3 (nn 0)), (i3 (nn 0))] [(0, 1, (tm p37)), (1, 1, (tm p38)), (2, 1, (tm p39))]) 3, s1 (some p9) (.new 97 [(i3 (nn 0)), (i3 (nn 0)), (i3 (nn 0))]) 4, s1 none (.st 3 (tm p9) (tm p40)) 5])
  (CC.seq (CC.seq (CC.draw [] [⟨(some p42), (.ld (tm p4)), none, 0, false, true⟩, ⟨(some p43), (.nilck (tm p42)), none, 1, false, true⟩, ⟨(some p44), (.fldA 4 (tm p43)), none, 2, false, true⟩, ⟨(some p45), (.ld (tm p44)), none, 3, false, true⟩, s1 (some p46) (.ldn 3 (tm p9)) 4, s1 (some p47) (.look (KK.agg [(Lf.int .i32), (Lf.int .i32), (Lf.int .i32)]) (i3 (nn 0)) true (tm p45) (tm p46)) 5, s1 (some p41) (.mv (tm p47)) 6, ⟨(some p48), (.extr (tm p41) 0), none, 7, false, true⟩, ⟨(some p49), (.extr (tm p41) 1), none, 8, false, true⟩, s1 (some p10) (.mv (tm p48)) 9, s1 (some p11) (.mv (tm p49)) 10])
  (CC.seq (CC.run [s1 (some p50) (.mv (tm p11)) 0])
  (CC.cond (tm p50) (CC.seq (CC.run [s1 (some p51) (.mv (tm p10)) 0, s1 (some p8) (.mv (tm p51)) 1])
  CC.ret)
  CC.skip)))
  (CC.seq (CC.draw [p12] [⟨(some p52), (.ld (tm p4)), none, 0, false, true⟩, ⟨(some p53), (.nilck (tm p52)), none, 1, false, true⟩, ⟨(some p54), (.fldA 2 (tm p53)), none, 2, false, true⟩, ⟨(some p55), (.ld (tm p54)), none, 3, false, true⟩, ⟨(some p56), (.ld (tm p5)), none, 4, false, true⟩, ⟨(some p57), (.idxAS 3 (tm p55) (tm p56)), none, 5, false, true⟩, ⟨(some p58), (.fldA 0 (tm p57)), none, 6, false, true⟩, ⟨(some p59), (.ld (tm p58)), none, 7, false, true⟩, ⟨(some p60), (.ld (tm p4)), none, 8, false, true⟩, ⟨(some p61), (.nilck (tm p60)), none, 9, false, true⟩, ⟨(some p62), (.fldA 2 (tm p61)), none, 10, false, true⟩, ⟨(some p63), (.ld (tm p62)), none, 11, false, true⟩, ⟨(some p64), (.ld (tm p6)), none, 12, false, true⟩, ⟨(some p65), (.idxAS 3 (tm p63) (tm p64)), none, 13, false, true⟩, ⟨(some p66), (.fldA 0 (tm p65)), none, 14, false, true⟩, ⟨(some p67), (.ld (tm p66)), none, 15, false, true⟩, ⟨(some p68), (.ld (tm p4)), none, 16, false, true⟩, ⟨(some p69), (.nilck (tm p68)), none, 17, false, true⟩, ⟨(some p70), (.fldA 2 (tm p69)), none, 18, false, true⟩, ⟨(some p71), (.ld (tm p70)), none, 19, false, true⟩, s1 (some p72) (.ld (tm p7)) 20, s1 (some p73) (.idxAS 3 (tm p71) (tm p72)) 21, s1 (some p74) (.fldA 0 (tm p73)) 22, s1 (some p75) (.ld (tm p74)) 23, s1 (some p76) (.minmax false [(tm p59), (tm p67), (tm p75)]) 24, s1 (some p12) (.new 21 [(i3 (nn 0))]) 25, s1 none (.st 1 (tm p12) (tm p76)) 26])
  (CC.seq (CC.run [s1 (some p77) (.mkfn 48 [] [(tm p4), (tm p5), (tm p12), (tm p6), (tm p7)]) 0, s1 (some p13) (.mv (tm p77)) 1])
  (CC.seq (CC.run [s1 (some p78) (.mv (tm p13)) 0, s1 (some p79) (.call (tm p78) [(cn (CV.bool false))]) 1, s1 (some p14) (.mv (tm p79)) 2])
  (CC.seq (CC.draw [] [⟨(some p80), (.ld (tm p4)), none, 0, false, false⟩, ⟨(some p81), (.ld (tm p12)), none, 1, false, false⟩, ⟨(some p82), (.mv (tm p14)), none, 2, false, false⟩, s1 (some p83) (.mv (tm p13)) 3, s1 (some p84) (.call (tm p83) [(cn (CV.bool true))]) 4, s1 (some p85) (.call (cn (CV.fn 35 [] [])) [(tm p80), (tm p81), (tm p82), (tm p84)]) 5, s1 (some p15) (.mv (tm p85)) 6])
  (CC.seq (CC.draw [] [⟨(some p86), (.ld (tm p4)), none, 0, false, true⟩, ⟨(some p87), (.nilck (tm p86)), none, 1, false, true⟩, ⟨(some p88), (.fldA 4 (tm p87)), none, 2, false, true⟩, ⟨(some p89), (.ld (tm p88)), none, 3, false, true⟩, ⟨(some p90), (.ldn 3 (tm p9)), none, 4, false, true⟩, s1 (some p91) (.mv (tm p15)) 5, s1 none (.mupd (KK.agg [(Lf.int .i32), (Lf.int .i32), (Lf.int .i32)]) (tm p89) (tm p90) (tm p91)) 6])
  (CC.seq (CC.run [s1 (some p92) (.mv (tm p15)) 0, s1 (some p8) (.mv (tm p92)) 1])
  CC.ret)))))))))), [CRes.tmp p8]⟩
theorem lit29_ok : fnO tys 29 Try.f29 = some lit29 := by kernel_rfl
noncomputable def lit30 : CFn :=
  ⟨30, 23, (CC.seq (CC.run [s1 (some p4) (.mv (cn (i6 (nn 0)))) 0])
  (CC.seq (CC.seq (CC.run [s1 (some p7) (.mv (tm p0)) 0, s1 (some p8) (.eqs false EK.ptr (tm p7) (cn CV.nilp)) 1])
  (CC.cond (tm p8) (CC.seq (CC.run [s1 (some p4) (.mv (cn (i6 (nn 2)))) 0])
  CC.ret)
  CC.skip))
  (CC.seq (CC.seq (CC.run [s1 (some p9) (.mv (tm p1)) 0, s1 (some p10) (.len false (tm p9)) 1, s1 (some p11) (.mv (cn (i6 (nn 0)))) 2])
  (CC.block 0 (CC.loop (CC.seq (CC.run [s1 (some p12) (.bin .lss (tm p11) (tm p10)) 0])
  (CC.seq (CC.cond (tm p12) CC.skip
  (CC.exit 0))
  (CC.seq (CC.block 1 (CC.seq (CC.run [s1 (some p13) (.idxAS 1 (tm p9) (tm p11)) 0, s1 (some p14) (.ld (tm p13)) 1, s1 (some p6) (.mv (tm p14)) 2])
  (CC.seq (CC.run [s1 (some p15) (.mv (tm p0)) 0, s1 (some p16) (.nilck (tm p15)) 1, s1 (some p17) (.fldA 5 (tm p16)) 2, s1 (some p18) (.ld (tm p17)) 3, s1 (some p19) (.mv (tm p6)) 4, s1 (some p20) (.look KK.int (CV.bool false) false (tm p18) (tm p19)) 5, s1 (some p21) (.not (tm p20)) 6])
  (CC.cond (tm p21) (CC.seq (CC.run [s1 (some p4) (.mv (cn (i6 (nn 1)))) 0])
  CC.ret)
  CC.skip))))
  (CC.run [s1 (some p22) (.bin .add (tm p11) (cn (i6 (nn 1)))) 0, s1 (some p11) (.mv (tm p22)) 1])))))))
  (CC.seq (CC.run [s1 (some p4) (.mv (cn (i6 (nn 0)))) 0])
  CC.ret)))), [CRes.tmp p4]⟩
theorem lit30_ok : fnO tys 30 Try.f30 = some lit30 := by kernel_rfl
noncomputable def lit31 : CFn :=
  ⟨31, 9, (CC.seq (CC.run [s1 (some p2) (.box 49 (tm p0)) 0, s1 (some p4) (.mv (cn (CV.bool false))) 1])
  (CC.seq (CC.run [s1 (some p5) (.mv (tm p1)) 0, s1 (some p6) (.mkfn 51 [] [(tm p2)]) 1, s1 (some p7) (.call (cn (CV.fn 50 [] [])) [(tm p5), (tm p6)]) 2, s1 (some p8) (.not (tm p7)) 3, s1 (some p4) (.mv (tm p8)) 4])
  CC.ret)), [CRes.tmp p4]⟩
theorem lit31_ok : fnO tys 31 Try.f31 = some lit31 := by kernel_rfl
noncomputable def lit32 : CFn :=
  ⟨32, 50, (CC.seq (CC.run [s1 (some p2) (.box 49 (tm p0)) 0, s1 (some p4) (.mv (cn (i6 (nn 0)))) 1, s1 (some p5) (.mv (cn (i6 (nn 0)))) 2])
  (CC.seq (CC.run [s1 (some p6) (.new 88 [CV.nils]) 0])
  (CC.seq (CC.run [s1 (some p11) .mkmap 0, s1 none (.mupd KK.int (tm p11) (cn (i3 (nn 0))) (cn (i6 (nn 1)))) 1, s1 none (.mupd KK.int (tm p11) (cn (i3 (nn 1))) (cn (i6 (nn 1)))) 2, s1 (some p12) (.mv (tm p11)) 3, s1 (some p7) (.new 102 [CV.nilm]) 4, s1 none (.st 1 (tm p7) (tm p12)) 5])
  (CC.seq (CC.run [s1 (some p8) (.new 93 [CV.nilf]) 0])
  (CC.seq (CC.run [s1 (some p13) (.mkfn 52 [] [(tm p7), (tm p2), (tm p6), (tm p8)]) 0, s1 none (.st 1 (tm p8) (tm p13)) 1])
  (CC.seq (CC.run [s1 (some p14) (.ld (tm p8)) 0, s1 (some p15) (.mv (tm p1)) 1, s1 (some p16) (.call (tm p14) [(tm p15)]) 2])
  (CC.seq (CC.seq (CC.draw [] [⟨(some p17), (.ld (tm p2)), none, 0, false, true⟩, ⟨(some p18), (.nilck (tm p17)), none, 1, false, true⟩, ⟨(some p19), (.fldA 6 (tm p18)), none, 2, false, true⟩, ⟨(some p20), (.ld (tm p19)), none, 3, false, true⟩, ⟨(some p21), (.mlen (tm p20)), none, 4, false, true⟩, ⟨(some p22), (.ld (tm p6)), none, 5, false, true⟩, ⟨(some p23), (.len false (tm p22)), none, 6, false, true⟩, ⟨(some p24), (.bin .add (tm p21) (tm p23)), none, 7, false, true⟩, s1 (some p25) (.ld (tm p2)) 8, s1 (some p26) (.nilck (tm p25)) 9, s1 (some p27) (.fldA 1 (tm p26)) 10, s1 (some p28) (.ld (tm p27)) 11, s1 (some p29) (.bin .gtr (tm p24) (tm p28)) 12])
  (CC.cond (tm p29) (CC.seq (CC.run [s1 (some p4) (.mv (cn (i6 (nn 0)))) 0, s1 (some p5) (.mv (cn (i6 (nn 3)))) 1])
  CC.ret)
  CC.skip))
  (CC.seq (CC.seq (CC.run [s1 (some p30) (.ld (tm p6)) 0, s1 (some p31) (.len false (tm p30)) 1, s1 (some p32) (.mv (cn (i6 (nn 0)))) 2])
  (CC.block 0 (CC.loop (CC.seq (CC.run [s1 (some p33) (.bin .lss (tm p32) (tm p31)) 0])
  (CC.seq (CC.cond (tm p33) CC.skip
  (CC.exit 0))
  (CC.seq (CC.block 1 (CC.seq (CC.run [s1 (some p34) (.idxAS 1 (tm p30) (tm p32)) 0, s1 (some p35) (.ld (tm p34)) 1, s1 (some p10) (.mv (tm p35)) 2])
  (CC.run [s1 (some p36) (.ld (tm p2)) 0, s1 (some p37) (.nilck (tm p36)) 1, s1 (some p38) (.fldA 6 (tm p37)) 2, s1 (some p39) (.ld (tm p38)) 3, s1 (some p40) (.mv (tm p10)) 4, s1 none (.mupd KK.int (tm p39) (tm p40) (cn (CV.bool true))) 5])))
  (CC.run [s1 (some p41) (.bin .add (tm p32) (cn (i6 (nn 1)))) 0, s1 (some p32) (.mv (tm p41)) 1])))))))
  (CC.seq (CC.run [s1 (some p42) (.ld (tm p2)) 0, s1 (some p43) (.nilck (tm p42)) 1, s1 (some p44) (.fldA 5 (tm p43)) 2, s1 (some p45) (.ld (tm p44)) 3, s1 (some p46) (.mv (tm p1)) 4, s1 (some p47) (.conv .i64 (tm p46)) 5, s1 none (.mupd KK.int (tm p45) (tm p47) (cn (CV.bool true))) 6])
  (CC.seq (CC.run [s1 (some p48) (.mv (tm p1)) 0, s1 (some p49) (.conv .i64 (tm p48)) 1, s1 (some p4) (.mv (tm p49)) 2, s1 (some p5) (.mv (cn (i6 (nn 0)))) 3])
  CC.ret)))))))))), [CRes.tmp p4, CRes.tmp p5]⟩
theorem lit32_ok : fnO tys 32 Try.f32 = some lit32 := by kernel_rfl
noncomputable def lit33 : CFn :=
  ⟨33, 15, (CC.seq (CC.run [s1 (some p3) (.box 49 (tm p0)) 0, s1 (some p5) (.box 65 (tm p2)) 1, s1 (some p6) (.mv (cn (i3 (nn 0)))) 2])
  (CC.seq (CC.run [s1 (some p9) .mkmap 0, s1 none (.mupd KK.int (tm p9) (cn (i3 (nn 0))) (cn (i3 (nn 0)))) 1, s1 none (.mupd KK.int (tm p9) (cn (i3 (nn 1))) (cn (i3 (nn 1)))) 2, s1 (some p10) (.mv (tm p9)) 3, s1 (some p7) (.new 69 [CV.nilm]) 4, s1 none (.st 1 (tm p7) (tm p10)) 5])
  (CC.seq (CC.run [s1 (some p8) (.new 103 [CV.nilf]) 0])
  (CC.seq (CC.run [s1 (some p11) (.mkfn 53 [] [(tm p7), (tm p3), (tm p8), (tm p5)]) 0, s1 none (.st 1 (tm p8) (tm p11)) 1])
  (CC.seq (CC.run [s1 (some p12) (.ld (tm p8)) 0, s1 (some p13) (.mv (tm p1)) 1, s1 (some p14) (.call (tm p12) [(tm p13)]) 2, s1 (some p6) (.mv (tm p14)) 3])
  CC.ret))))), [CRes.tmp p6]⟩
theorem lit33_ok : fnO tys 33 Try.f33 = some lit33 := by kernel_rfl
noncomputable def lit34 : CFn :=
  ⟨34, 26, (CC.seq (CC.run [s1 (some p8) (.mv (cn (i3 (nn 0)))) 0])
  (CC.seq (CC.seq (CC.run [s1 (some p12) (.ld (tm p3)) 0, s1 (some p13) (.mv (tm p0)) 1, s1 (some p14) (.look KK.int (i3 (nn 0)) true (tm p12) (tm p13)) 2, s1 (some p11) (.mv (tm p14)) 3, s1 (some p15) (.extr (tm p11) 0) 4, s1 (some p16) (.extr (tm p11) 1) 5, s1 (some p9) (.mv (tm p15)) 6, s1 (some p10) (.mv (tm p16)) 7])
  (CC.seq (CC.run [s1 (some p17) (.mv (tm p10)) 0])
  (CC.cond (tm p17) (CC.run [s1 (some p18) (.mv (tm p9)) 0, s1 (some p0) (.mv (tm p18)) 1])
  CC.skip)))
  (CC.seq (CC.draw [] [⟨(some p19), (.ld (tm p4)), none, 0, false, false⟩, ⟨(some p20), (.ld (tm p4)), none, 1, false, true⟩, ⟨(some p21), (.mv (tm p0)), none, 2, false, true⟩, ⟨(some p23), (.mv (tm p2)), none, 4, false, false⟩, ⟨(some p24), (.mv (tm p1)), none, 5, false, false⟩, s1 (some p22) (.call (cn (CV.fn 35 [] [])) [(tm p20), (tm p21), (cn (i3 (nn 0))), (cn (i3 (nn 1)))]) 3, s1 (some p25) (.call (cn (CV.fn 29 [] [])) [(tm p19), (tm p22), (tm p23), (tm p24)]) 6, s1 (some p8) (.mv (tm p25)) 7])
  CC.ret))), [CRes.tmp p8]⟩
theorem lit34_ok : fnO tys 34 Try.f34 = some lit34 := by kernel_rfl
noncomputable def lit35 : CFn :=
  ⟨35, 54, (CC.seq (CC.run [s1 (some p8) (.mv (cn (i3 (nn 0)))) 0])
  (CC.seq (CC.seq (CC.run [s1 (some p12) (.mv (tm p2)) 0, s1 (some p13) (.mv (tm p3)) 1, s1 (some p14) (.bin .eql (tm p12) (tm p13)) 2])
  (CC.cond (tm p14) (CC.seq (CC.run [s1 (some p15) (.mv (tm p2)) 0, s1 (some p8) (.mv (tm p15)) 1])
  CC.ret)
  CC.skip))
  (CC.seq (CC.run [s1 (some p16) (.mv (tm p1)) 0, s1 (some p17) (.mv (tm p2)) 1, s1 (some p18) (.mv (tm p3)) 2, s1 (some p19) (.build [(i3 (nn 0)), (i3 (nn 0)), (i3 (nn 0))] [(0, 1, (tm p16)), (1, 1, (tm p17)), (2, 1, (tm p18))]) 3, s1 (some p9) (.new 74 [(i3 (nn 0)), (i3 (nn 0)), (i3 (nn 0))]) 4, s1 none (.st 3 (tm p9) (tm p19)) 5])
  (CC.seq (CC.draw [] [⟨(some p21), (.mv (tm p0)), none, 0, false, true⟩, ⟨(some p22), (.nilck (tm p21)), none, 1, false, true⟩, ⟨(some p23), (.fldA 3 (tm p22)), none, 2, false, true⟩, ⟨(some p24), (.ld (tm p23)), none, 3, false, true⟩, s1 (some p25) (.ldn 3 (tm p9)) 4, s1 (some p26) (.look (KK.agg [(Lf.int .i32), (Lf.int .i32), (Lf.int .i32)]) (i3 (nn 0)) true (tm p24) (tm p25)) 5, s1 (some p20) (.mv (tm p26)) 6, ⟨(some p27), (.extr (tm p20) 0), none, 7, false, true⟩, ⟨(some p28), (.extr (tm p20) 1), none, 8, false, true⟩, s1 (some p10) (.mv (tm p27)) 9, s1 (some p11) (.mv (tm p28)) 10])
  (CC.seq (CC.seq (CC.run [s1 (some p29) (.mv (tm p11)) 0, s1 (some p30) (.not (tm p29)) 1])
  (CC.cond (tm p30) (CC.seq (CC.run [s1 (some p31) (.mv (tm p0)) 0, s1 (some p32) (.nilck (tm p31)) 1, s1 (some p33) (.fldA 2 (tm p32)) 2, s1 (some p34) (.ld (tm p33)) 3, s1 (some p35) (.len false (tm p34)) 4, s1 (some p36) (.conv .i32 (tm p35)) 5, s1 (some p10) (.mv (tm p36)) 6])
  (CC.seq (CC.draw [] [⟨(some p37), (.mv (tm p0)), none, 0, false, false⟩, ⟨(some p38), (.mv (tm p0)), none, 1, false, true⟩, ⟨(some p39), (.nilck (tm p38)), none, 2, false, true⟩, ⟨(some p40), (.fldA 2 (tm p39)), none, 3, false, true⟩, ⟨(some p41), (.ld (tm p40)), none, 4, false, true⟩, s1 (some p42) (.ldn 3 (tm p9)) 5, s1 (some p43) (.bslice 74 3 1 [(i3 (nn 0)), (i3 (nn 0)), (i3 (nn 0))] [(0, 3, (tm p42))]) 6, s1 (some p44) (.app 74 3 12 (tm p41) (tm p43)) 7, s1 (some p45) (.nilck (tm p37)) 8, s1 (some p46) (.fldA 2 (tm p45)) 9, s1 none (.st 1 (tm p46) (tm p44)) 10])
  (CC.draw [] [⟨(some p47), (.mv (tm p0)), none, 0, false, true⟩, ⟨(some p48), (.nilck (tm p47)), none, 1, false, true⟩, ⟨(some p49), (.fldA 3 (tm p48)), none, 2, false, true⟩, ⟨(some p50), (.ld (tm p49)), none, 3, false, true⟩, ⟨(some p51), (.ldn 3 (tm p9)), none, 4, false, true⟩, s1 (some p52) (.mv (tm p10)) 5, s1 none (.mupd (KK.agg [(Lf.int .i32), (Lf.int .i32), (Lf.int .i32)]) (tm p50) (tm p51) (tm p52)) 6])))
  CC.skip))
  (CC.seq (CC.run [s1 (some p53) (.mv (tm p10)) 0, s1 (some p8) (.mv (tm p53)) 1])
  CC.ret)))))), [CRes.tmp p8]⟩
theorem lit35_ok : fnO tys 35 Try.f35 = some lit35 := by kernel_rfl
noncomputable def lit36 : CFn :=
  ⟨36, 45, (CC.seq (CC.run [s1 (some p5) (.box 54 (tm p2)) 0, s1 (some p6) (.mv (cn (CV.bool false))) 1])
  (CC.seq (CC.seq (CC.run [s1 (some p11) (.ld (tm p5)) 0, s1 (some p12) (.len false (tm p11)) 1, s1 (some p13) (.mv (cn (i6 (nn 0)))) 2])
  (CC.block 0 (CC.loop (CC.seq (CC.run [s1 (some p14) (.bin .lss (tm p13) (tm p12)) 0])
  (CC.seq (CC.cond (tm p14) CC.skip
  (CC.exit 0))
  (CC.seq (CC.block 1 (CC.seq (CC.run [s1 (some p15) (.mv (tm p13)) 0, s1 (some p16) (.idxAS 1 (tm p11) (tm p13)) 1, s1 (some p17) (.ld (tm p16)) 2, s1 (some p7) (.mv (tm p15)) 3, s1 (some p8) (.mv (tm p17)) 4])
  (CC.seq (CC.run [s1 (some p18) (.mv (tm p7)) 0, s1 (some p19) (.bin .gtr (tm p18) (cn (i6 (nn 0)))) 1, s1 (some p20) (.mv (tm p19)) 2, ⟨(some p21), (.mv (tm p8)), (some (p20, true)), 3, true, true⟩, ⟨(some p22), (.ld (tm p5)), (some (p20, true)), 4, true, true⟩, ⟨(some p23), (.mv (tm p7)), (some (p20, true)), 5, true, true⟩, ⟨(some p24), (.bin .sub (tm p23) (cn (i6 (nn 1)))), (some (p20, true)), 6, true, true⟩, ⟨(some p25), (.idxAS 1 (tm p22) (tm p24)), (some (p20, true)), 7, true, true⟩, ⟨(some p26), (.ld (tm p25)), (some (p20, true)), 8, true, true⟩, ⟨(some p27), (.bin .leq (tm p21) (tm p26)), (some (p20, true)), 9, true, true⟩, s1 (some p28) (.pick (tm p20) (tm p27) (cn (CV.bool false))) 10])
  (CC.cond (tm p28) (CC.seq (CC.run [s1 (some p6) (.mv (cn (CV.bool false))) 0])
  CC.ret)
  CC.skip))))
  (CC.run [s1 (some p29) (.bin .add (tm p13) (cn (i6 (nn 1)))) 0, s1 (some p13) (.mv (tm p29)) 1])))))))
  (CC.seq (CC.run [s1 (some p31) (.mv (tm p0)) 0, s1 (some p32) (.mv (tm p1)) 1, s1 (some p33) (.call (cn (CV.fn 26 [] [])) [(tm p31), (tm p32)]) 2, s1 (some p30) (.mv (tm p33)) 3, s1 (some p34) (.extr (tm p30) 0) 4, s1 (some p35) (.extr (tm p30) 1) 5, s1 (some p9) (.mv (tm p34)) 6, s1 (some p10) (.mv (tm p35)) 7])
  (CC.seq (CC.run [s1 (some p36) (.mv (tm p0)) 0, s1 (some p37) (.ld (tm p5)) 1, s1 (some p38) (.call (cn (CV.fn 31 [] [])) [(tm p36), (tm p37)]) 2, s1 (some p39) (.mv (tm p38)) 3, ⟨(some p40), (.mv (tm p9)), (some (p39, true)), 4, true, true⟩, ⟨(some p41), (.mkfn 54 [] [(tm p5)]), (some (p39, true)), 5, true, true⟩, ⟨(some p42), (.call (cn (CV.fn 50 [] [])) [(tm p40), (tm p41)]), (some (p39, true)), 6, true, true⟩, ⟨(some p43), (.not (tm p42)), (some (p39, true)), 7, true, true⟩, s1 (some p44) (.pick (tm p39) (tm p43) (cn (CV.bool false))) 8, s1 (some p6) (.mv (tm p44)) 9])
  CC.ret)))), [CRes.tmp p6]⟩
theorem lit36_ok : fnO tys 36 Try.f36 = some lit36 := by kernel_rfl
noncomputable def lit37 : CFn :=
  ⟨37, 20, (CC.seq (CC.run [s1 (some p4) (.mv (cn (i6 (nn 0)))) 0])
  (CC.seq (CC.seq (CC.run [s1 (some p5) (.mv (tm p0)) 0, s1 (some p6) (.bin .lss (tm p5) (cn (i3 (nn 2)))) 1])
  (CC.cond (tm p6) (CC.seq (CC.run [s1 (some p7) (.ld (tm p1)) 0, s1 (some p8) (.len false (tm p7)) 1, s1 (some p4) (.mv (tm p8)) 2])
  CC.ret)
  CC.skip))
  (CC.seq (CC.draw [] [⟨(some p9), (.ld (tm p1)), none, 0, false, true⟩, ⟨(some p10), (.ld (tm p2)), none, 1, false, true⟩, ⟨(some p11), (.nilck (tm p10)), none, 2, false, true⟩, ⟨(some p12), (.fldA 2 (tm p11)), none, 3, false, true⟩, ⟨(some p13), (.ld (tm p12)), none, 4, false, true⟩, s1 (some p14) (.mv (tm p0)) 5, s1 (some p15) (.idxAS 3 (tm p13) (tm p14)) 6, s1 (some p16) (.fldA 0 (tm p15)) 7, s1 (some p17) (.ld (tm p16)) 8, s1 (some p18) (.conv .i64 (tm p17)) 9, s1 (some p19) (.call (cn (CV.fn 38 [] [])) [(tm p9), (tm p18)]) 10, s1 (some p4) (.mv (tm p19)) 11])
  CC.ret))), [CRes.tmp p4]⟩
theorem lit37_ok : fnO tys 37 Try.f37 = some lit37 := by kernel_rfl
noncomputable def lit38 : CFn :=
  ⟨38, 19, (CC.seq (CC.run [s1 (some p4) (.mv (cn (i6 (nn 0)))) 0])
  (CC.seq (CC.seq (CC.run [s1 (some p6) (.mv (tm p0)) 0, s1 (some p7) (.len false (tm p6)) 1, s1 (some p8) (.mv (cn (i6 (nn 0)))) 2])
  (CC.block 0 (CC.loop (CC.seq (CC.run [s1 (some p9) (.bin .lss (tm p8) (tm p7)) 0])
  (CC.seq (CC.cond (tm p9) CC.skip
  (CC.exit 0))
  (CC.seq (CC.block 1 (CC.seq (CC.run [s1 (some p10) (.mv (tm p8)) 0, s1 (some p5) (.mv (tm p10)) 1])
  (CC.seq (CC.run [s1 (some p11) (.mv (tm p1)) 0, s1 (some p12) (.mv (tm p0)) 1, s1 (some p13) (.mv (tm p5)) 2, s1 (some p14) (.idxAS 1 (tm p12) (tm p13)) 3, s1 (some p15) (.ld (tm p14)) 4, s1 (some p16) (.bin .eql (tm p11) (tm p15)) 5])
  (CC.cond (tm p16) (CC.seq (CC.run [s1 (some p17) (.mv (tm p5)) 0, s1 (some p4) (.mv (tm p17)) 1])
  CC.ret)
  CC.skip))))
  (CC.run [s1 (some p18) (.bin .add (tm p8) (cn (i6 (nn 1)))) 0, s1 (some p8) (.mv (tm p18)) 1])))))))
  (CC.seq (CC.run [s1 (some p4) (.mv (cn (i6 (Int.negSucc 0)))) 0])
  CC.ret))), [CRes.tmp p4]⟩
theorem lit38_ok : fnO tys 38 Try.f38 = some lit38 := by kernel_rfl
noncomputable def lit39 : CFn :=
  ⟨39, 79, (CC.seq (CC.run [s1 (some p6) (.new 37 [(CV.int .u64 (nn 0)), (CV.int .u64 (nn 0))]) 0])
  (CC.seq (CC.seq (CC.run [s1 (some p16) (.ld (tm p1)) 0, s1 (some p17) (.mv (tm p0)) 1, s1 (some p18) (.look KK.int (CV.agg [(CV.int .u64 (nn 0)), (CV.int .u64 (nn 0))]) true (tm p16) (tm p17)) 2, s1 (some p15) (.mv (tm p18)) 3, s1 (some p19) (.extr (tm p15) 0) 4, s1 (some p20) (.extr (tm p15) 1) 5, s1 (some p7) (.new 37 [(CV.int .u64 (nn 0)), (CV.int .u64 (nn 0))]) 6, s1 none (.st 2 (tm p7) (tm p19)) 7, s1 (some p8) (.mv (tm p20)) 8])
  (CC.seq (CC.run [s1 (some p21) (.mv (tm p8)) 0])
  (CC.cond (tm p21) (CC.seq (CC.run [s1 (some p22) (.ldn 2 (tm p7)) 0, s1 none (.st 2 (tm p6) (tm p22)) 1])
  CC.ret)
  CC.skip)))
  (CC.seq (CC.run [s1 (some p9) (.new 37 [(CV.int .u64 (nn 0)), (CV.int .u64 (nn 0))]) 0])
  (CC.seq (CC.seq (CC.draw [] [⟨(some p23), (.ld (tm p2)), none, 0, false, true⟩, ⟨(some p24), (.nilck (tm p23)), none, 1, false, true⟩, ⟨(some p25), (.fldA 2 (tm p24)), none, 2, false, true⟩, ⟨(some p26), (.ld (tm p25)), none, 3, false, true⟩, ⟨(some p27), (.mv (tm p0)), none, 4, false, true⟩, ⟨(some p28), (.idxAS 3 (tm p26) (tm p27)), none, 5, false, true⟩, ⟨(some p29), (.fldA 1 (tm p28)), none, 6, false, true⟩, ⟨(some p30), (.ld (tm p29)), none, 7, false, true⟩, ⟨(some p31), (.ld (tm p2)), none, 8, false, true⟩, ⟨(some p32), (.nilck (tm p31)), none, 9, false, true⟩, ⟨(some p33), (.fldA 2 (tm p32)), none, 10, false, true⟩, ⟨(some p34), (.ld (tm p33)), none, 11, false, true⟩, ⟨(some p35), (.mv (tm p0)), none, 12, false, true⟩, ⟨(some p36), (.idxAS 3 (tm p34) (tm p35)), none, 13, false, true⟩, ⟨(some p37), (.fldA 2 (tm p36)), none, 14, false, true⟩, ⟨(some p38), (.ld (tm p37)), none, 15, false, true⟩, ⟨(some p41), (.mv (cn (i6 (nn 0)))), none, 18, false, true⟩, s1 (some p39) (.bslice 21 1 2 [(i3 (nn 0)), (i3 (nn 0))] [(0, 1, (tm p30)), (1, 1, (tm p38))]) 16, s1 (some p40) (.len false (tm p39)) 17])
  (CC.block 0 (CC.loop (CC.seq (CC.run [s1 (some p42) (.bin .lss (tm p41) (tm p40)) 0])
  (CC.seq (CC.cond (tm p42) CC.skip
  (CC.exit 0))
  (CC.seq (CC.block 1 (CC.seq (CC.run [s1 (some p43) (.idxAS 1 (tm p39) (tm p41)) 0, s1 (some p44) (.ld (tm p43)) 1, s1 (some p11) (.mv (tm p44)) 2])
  (CC.seq (CC.draw [p12] [⟨(some p45), (.ld (tm p3)), none, 0, false, true⟩, ⟨(some p46), (.mv (tm p11)), none, 1, false, true⟩, ⟨(some p48), (.ld (tm p4)), none, 3, false, false⟩, ⟨(some p49), (.mv (tm p11)), none, 4, false, false⟩, ⟨(some p51), (.ld (tm p4)), none, 6, false, false⟩, ⟨(some p52), (.mv (tm p0)), none, 7, false, false⟩, s1 (some p47) (.call (tm p45) [(tm p46)]) 2, s1 (some p50) (.call (tm p48) [(tm p49)]) 5, s1 (some p53) (.call (tm p51) [(tm p52)]) 8, s1 (some p54) (.bin .sub (tm p50) (tm p53)) 9, s1 (some p55) (.bin .sub (tm p54) (cn (i6 (nn 1)))) 10, s1 (some p56) (.call (cn (CV.fn 40 [] [])) [(tm p47), (tm p55)]) 11, s1 (some p12) (.new 37 [(CV.int .u64 (nn 0)), (CV.int .u64 (nn 0))]) 12, s1 none (.st 2 (tm p12) (tm p56)) 13])
  (CC.seq (CC.run [s1 (some p58) (.fldA 1 (tm p9)) 0, s1 (some p59) (.ld (tm p58)) 1, s1 (some p60) (.fldA 1 (tm p12)) 2, s1 (some p61) (.ld (tm p60)) 3, s1 (some p62) (.call (cn (CV.fn 41 [] [])) [(tm p59), (tm p61), (cn (CV.int .u64 (nn 0)))]) 4, s1 (some p57) (.mv (tm p62)) 5, s1 (some p63) (.extr (tm p57) 0) 6, s1 (some p64) (.extr (tm p57) 1) 7, s1 (some p13) (.mv (tm p63)) 8, s1 (some p14) (.mv (tm p64)) 9])
  (CC.run [s1 (some p65) (.fldA 0 (tm p9)) 0, s1 (some p66) (.ld (tm p65)) 1, s1 (some p67) (.fldA 0 (tm p12)) 2, s1 (some p68) (.ld (tm p67)) 3, s1 (some p69) (.bin .add (tm p66) (tm p68)) 4, s1 (some p70) (.mv (tm p14)) 5, s1 (some p71) (.bin .add (tm p69) (tm p70)) 6, s1 (some p72) (.mv (tm p13)) 7, s1 (some p73) (.build [(CV.int .u64 (nn 0)), (CV.int .u64 (nn 0))] [(0, 1, (tm p71)), (1, 1, (tm p72))]) 8, s1 none (.st 2 (tm p9) (tm p73)) 9])))))
  (CC.run [s1 (some p74) (.bin .add (tm p41) (cn (i6 (nn 1)))) 0, s1 (some p41) (.mv (tm p74)) 1])))))))
  (CC.seq (CC.run [s1 (some p75) (.ld (tm p1)) 0, s1 (some p76) (.mv (tm p0)) 1, s1 (some p77) (.ldn 2 (tm p9)) 2, s1 none (.mupd KK.int (tm p75) (tm p76) (tm p77)) 3])
  (CC.seq (CC.run [s1 (some p78) (.ldn 2 (tm p9)) 0, s1 none (.st 2 (tm p6) (tm p78)) 1])
  CC.ret)))))), [CRes.cell p6 (some 2)]⟩
theorem lit39_ok : fnO tys 39 Try.f39 = some lit39 := by kernel_rfl
noncomputable def lit40 : CFn :=
  ⟨40, 27, (CC.seq (CC.run [s1 (some p2) (.box 37 (tm p0)) 0, s1 (some p4) (.new 37 [(CV.int .u64 (nn 0)), (CV.int .u64 (nn 0))]) 1])
  (CC.seq (CC.seq (CC.run [s1 (some p5) (.mv (tm p1)) 0, s1 (some p6) (.bin .geq (tm p5) (cn (i6 (nn 64)))) 1])
  (CC.cond (tm p6) (CC.run [s1 (some p7) (.fldA 1 (tm p2)) 0, s1 (some p8) (.ld (tm p7)) 1, s1 (some p9) (.build [(CV.int .u64 (nn 0)), (CV.int .u64 (nn 0))] [(0, 1, (tm p8))]) 2, s1 (some p10) (.mv (tm p1)) 3, s1 (some p11) (.bin .sub (tm p10) (cn (i6 (nn 64)))) 4, s1 none (.st 2 (tm p2) (tm p9)) 5, s1 (some p1) (.mv (tm p11)) 6])
  CC.skip))
  (CC.seq (CC.draw [] [⟨(some p12), (.fldA 0 (tm p2)), none, 0, false, true⟩, ⟨(some p13), (.ld (tm p12)), none, 1, false, true⟩, ⟨(some p14), (.mv (tm p1)), none, 2, false, true⟩, ⟨(some p15), (.bin .shl (tm p13) (tm p14)), none, 3, false, true⟩, ⟨(some p16), (.fldA 1 (tm p2)), none, 4, false, true⟩, ⟨(some p17), (.ld (tm p16)), none, 5, false, true⟩, ⟨(some p18), (.mv (tm p1)), none, 6, false, true⟩, ⟨(some p19), (.bin .sub (cn (i6 (nn 64))) (tm p18)), none, 7, false, true⟩, ⟨(some p20), (.bin .shr (tm p17) (tm p19)), none, 8, false, true⟩, ⟨(some p21), (.bin .or (tm p15) (tm p20)), none, 9, false, true⟩, ⟨(some p22), (.fldA 1 (tm p2)), none, 10, false, true⟩, ⟨(some p23), (.ld (tm p22)), none, 11, false, true⟩, s1 (some p24) (.mv (tm p1)) 12, s1 (some p25) (.bin .shl (tm p23) (tm p24)) 13, s1 (some p26) (.build [(CV.int .u64 (nn 0)), (CV.int .u64 (nn 0))] [(0, 1, (tm p21)), (1, 1, (tm p25))]) 14, s1 none (.st 2 (tm p4) (tm p26)) 15])
  CC.ret))), [CRes.cell p4 (some 2)]⟩
theorem lit40_ok : fnO tys 40 Try.f40 = some lit40 := by kernel_rfl
noncomputable def lit42 : CFn :=
  ⟨42, 14, (CC.seq (CC.run [s1 (some p3) (.box 49 (tm p0)) 0, s1 (some p5) (.box 93 (tm p2)) 1])
  (CC.seq (CC.run [s1 (some p8) .mkmap 0, s1 none (.mupd KK.int (tm p8) (cn (i3 (nn 0))) (cn (i6 (nn 1)))) 1, s1 none (.mupd KK.int (tm p8) (cn (i3 (nn 1))) (cn (i6 (nn 1)))) 2, s1 (some p9) (.mv (tm p8)) 3, s1 (some p6) (.new 102 [CV.nilm]) 4, s1 none (.st 1 (tm p6) (tm p9)) 5])
  (CC.seq (CC.run [s1 (some p7) (.new 93 [CV.nilf]) 0])
  (CC.seq (CC.run [s1 (some p10) (.mkfn 56 [] [(tm p6), (tm p5), (tm p7), (tm p3)]) 0, s1 none (.st 1 (tm p7) (tm p10)) 1])
  (CC.run [s1 (some p11) (.ld (tm p7)) 0, s1 (some p12) (.mv (tm p1)) 1, s1 (some p13) (.call (tm p11) [(tm p12)]) 2]))))), []⟩
theorem lit42_ok : fnO tys 42 Try.f42 = some lit42 := by kernel_rfl
noncomputable def lit43 : CFn :=
  ⟨43, 5, (CC.run [s1 (some p3) (.ld (tm p1)) 0, s1 (some p4) (.bin .add (tm p3) (cn (i6 (nn 1)))) 1, s1 none (.st 1 (tm p1) (tm p4)) 2]), []⟩
theorem lit43_ok : fnO tys 43 Try.f43 = some lit43 := by kernel_rfl
noncomputable def lit44 : CFn :=
  ⟨44, 16, (CC.draw [] [⟨(some p4), (.ld (tm p1)), none, 0, false, true⟩, ⟨(some p5), (.ld (tm p2)), none, 1, false, true⟩, ⟨(some p6), (.nilck (tm p5)), none, 2, false, true⟩, ⟨(some p7), (.fldA 2 (tm p6)), none, 3, false, true⟩, ⟨(some p8), (.ld (tm p7)), none, 4, false, true⟩, s1 (some p9) (.mv (tm p0)) 5, s1 (some p10) (.idxAS 3 (tm p8) (tm p9)) 6, s1 (some p11) (.fldA 0 (tm p10)) 7, s1 (some p12) (.ld (tm p11)) 8, s1 (some p13) (.conv .i64 (tm p12)) 9, s1 (some p14) (.bslice 3 1 1 [(i6 (nn 0))] [(0, 1, (tm p13))]) 10, s1 (some p15) (.app 3 1 8 (tm p4) (tm p14)) 11, s1 none (.st 1 (tm p1) (tm p15)) 12]), []⟩
theorem lit44_ok : fnO tys 44 Try.f44 = some lit44 := by kernel_rfl
noncomputable def lit45 : CFn :=
  ⟨45, 11, (CC.seq (CC.run [s1 (some p3) (.mv (tm p0)) 0, s1 (some p4) (.len false (tm p3)) 1, s1 (some p2) (.mv (tm p4)) 2])
  (CC.run [s1 (some p5) (.mv (tm p0)) 0, s1 (some p6) (.mv (tm p2)) 1, s1 (some p7) (.mv (tm p2)) 2, s1 (some p8) (.conv .u64 (tm p7)) 3, s1 (some p9) (.call (cn (CV.fn 58 [] [])) [(tm p8)]) 4, s1 (some p10) (.call (cn (CV.fn 57 [] [])) [(tm p5), (cn (i6 (nn 0))), (tm p6), (tm p9)]) 5])), []⟩
theorem lit45_ok : fnO tys 45 Try.f45 = some lit45 := by kernel_rfl
noncomputable def lit46 : CFn :=
  ⟨46, 61, (CC.seq (CC.run [s1 (some p2) (.mv (cn CV.nils)) 0])
  (CC.seq (CC.seq (CC.run [s1 (some p6) (.mv (tm p0)) 0, s1 (some p7) (.len false (tm p6)) 1, s1 (some p8) (.bin .lss (tm p7) (cn (i6 (nn 2)))) 2])
  (CC.cond (tm p8) (CC.seq (CC.run [s1 (some p9) (.mv (tm p0)) 0, s1 (some p2) (.mv (tm p9)) 1])
  CC.ret)
  CC.skip))
  (CC.seq (CC.seq (CC.run [s1 (some p3) (.mv (cn (i6 (nn 1)))) 0])
  (CC.block 0 (CC.loop (CC.seq (CC.seq (CC.run [s1 (some p10) (.mv (tm p3)) 0, s1 (some p11) (.mv (tm p0)) 1, s1 (some p12) (.len false (tm p11)) 2, s1 (some p13) (.bin .lss (tm p10) (tm p12)) 3])
  (CC.cond (tm p13) CC.skip
  (CC.exit 0)))
  (CC.seq (CC.block 1 (CC.seq (CC.draw [] [⟨(some p16), (.mv (tm p0)), none, 0, false, true⟩, ⟨(some p17), (.mv (tm p3)), none, 1, false, true⟩, ⟨(some p18), (.idxAS 1 (tm p16) (tm p17)), none, 2, false, true⟩, ⟨(some p19), (.ld (tm p18)), none, 3, false, true⟩, ⟨(some p20), (.mv (tm p0)), none, 4, false, true⟩, s1 (some p21) (.mv (tm p3)) 5, s1 (some p22) (.bin .sub (tm p21) (cn (i6 (nn 1)))) 6, s1 (some p23) (.idxAS 1 (tm p20) (tm p22)) 7, s1 (some p24) (.ld (tm p23)) 8, s1 (some p25) (.bin .eql (tm p19) (tm p24)) 9])
  (CC.cond (tm p25) (CC.seq (CC.run [s1 (some p26) (.mv (tm p0)) 0, s1 (some p27) (.mv (tm p3)) 1, s1 (some p28) (.slice 1 (tm p26) (some (tm p27)) none) 2, s1 (some p4) (.mv (tm p28)) 3])
  (CC.seq (CC.seq (CC.run [s1 (some p5) (.mv (cn (i6 (nn 1)))) 0])
  (CC.block 2 (CC.loop (CC.seq (CC.seq (CC.run [s1 (some p29) (.mv (tm p5)) 0, s1 (some p30) (.mv (tm p4)) 1, s1 (some p31) (.len false (tm p30)) 2, s1 (some p32) (.bin .lss (tm p29) (tm p31)) 3])
  (CC.cond (tm p32) CC.skip
  (CC.exit 2)))
  (CC.seq (CC.block 3 (CC.seq (CC.draw [] [⟨(some p35), (.mv (tm p4)), none, 0, false, true⟩, ⟨(some p36), (.mv (tm p5)), none, 1, false, true⟩, ⟨(some p37), (.idxAS 1 (tm p35) (tm p36)), none, 2, false, true⟩, ⟨(some p38), (.ld (tm p37)), none, 3, false, true⟩, ⟨(some p39), (.mv (tm p4)), none, 4, false, true⟩, s1 (some p40) (.mv (tm p5)) 5, s1 (some p41) (.bin .sub (tm p40) (cn (i6 (nn 1)))) 6, s1 (some p42) (.idxAS 1 (tm p39) (tm p41)) 7, s1 (some p43) (.ld (tm p42)) 8, s1 (some p44) (.bin .neq (tm p38) (tm p43)) 9])
  (CC.cond (tm p44) (CC.seq (CC.run [s1 (some p45) (.mv (tm p0)) 0, s1 (some p46) (.mv (tm p3)) 1, s1 (some p47) (.mv (tm p4)) 2, s1 (some p48) (.mv (tm p5)) 3, s1 (some p49) (.idxAS 1 (tm p47) (tm p48)) 4, s1 (some p50) (.ld (tm p49)) 5, s1 (some p51) (.idxAS 1 (tm p45) (tm p46)) 6, s1 none (.st 1 (tm p51) (tm p50)) 7])
  (CC.run [s1 (some p52) (.mv (tm p3)) 0, s1 (some p53) (.bin .add (tm p52) (cn (i6 (nn 1)))) 1, s1 (some p3) (.mv (tm p53)) 2]))
  CC.skip)))
  (CC.run [s1 (some p33) (.mv (tm p5)) 0, s1 (some p34) (.bin .add (tm p33) (cn (i6 (nn 1)))) 1, s1 (some p5) (.mv (tm p34)) 2]))))))
  (CC.seq (CC.run [s1 (some p54) (.mv (tm p0)) 0, s1 (some p55) (.mv (tm p3)) 1, s1 (some p56) (.slice 1 (tm p54) (some (tm p55)) none) 2, s1 none (.clr 1 [(i6 (nn 0))] (tm p56)) 3])
  (CC.seq (CC.run [s1 (some p57) (.mv (tm p0)) 0, s1 (some p58) (.mv (tm p3)) 1, s1 (some p59) (.slice 1 (tm p57) none (some (tm p58))) 2, s1 (some p2) (.mv (tm p59)) 3])
  CC.ret))))
  CC.skip)))
  (CC.run [s1 (some p14) (.mv (tm p3)) 0, s1 (some p15) (.bin .add (tm p14) (cn (i6 (nn 1)))) 1, s1 (some p3) (.mv (tm p15)) 2]))))))
  (CC.seq (CC.run [s1 (some p60) (.mv (tm p0)) 0, s1 (some p2) (.mv (tm p60)) 1])
  CC.ret)))), [CRes.tmp p2]⟩
theorem lit46_ok : fnO tys 46 Try.f46 = some lit46 := by kernel_rfl
noncomputable def lit47 : CFn :=
  ⟨47, 22, (CC.seq (CC.run [s1 (some p9) (.mv (cn (i3 (nn 0)))) 0])
  (CC.seq (CC.seq (CC.run [s1 (some p10) (.mv (tm p0)) 0, s1 (some p11) (.idxAA 256 1 (tm p3) (tm p10)) 1, s1 (some p12) (.ld (tm p11)) 2])
  (CC.cond (tm p12) (CC.seq (CC.run [s1 (some p13) (.ld (tm p4)) 0, s1 (some p14) (.mv (tm p1)) 1, s1 (some p15) (.mv (tm p2)) 2, s1 (some p16) (.call (tm p13) [(tm p14), (tm p15)]) 3, s1 (some p9) (.mv (tm p16)) 4])
  CC.ret)
  CC.skip))
  (CC.seq (CC.run [s1 (some p17) (.ld (tm p5)) 0, s1 (some p18) (.mv (tm p0)) 1, s1 (some p19) (.mv (tm p1)) 2, s1 (some p20) (.mv (tm p2)) 3, s1 (some p21) (.call (cn (CV.fn 35 [] [])) [(tm p17), (tm p18), (tm p19), (tm p20)]) 4, s1 (some p9) (.mv (tm p21)) 5])
  CC.ret))), [CRes.tmp p9]⟩
theorem lit47_ok : fnO tys 47 Try.f47 = some lit47 := by kernel_rfl
noncomputable def lit48 : CFn :=
  ⟨48, 25, (CC.seq (CC.run [s1 (some p7) (.mv (cn (i3 (nn 0)))) 0])
  (CC.seq (CC.draw [] [⟨(some p8), (.ld (tm p1)), none, 0, false, false⟩, ⟨(some p9), (.ld (tm p1)), none, 1, false, true⟩, ⟨(some p10), (.ld (tm p2)), none, 2, false, true⟩, ⟨(some p11), (.ld (tm p3)), none, 3, false, true⟩, ⟨(some p12), (.mv (tm p0)), none, 4, false, true⟩, ⟨(some p14), (.ld (tm p1)), none, 6, false, false⟩, ⟨(some p15), (.ld (tm p4)), none, 7, false, false⟩, ⟨(some p16), (.ld (tm p3)), none, 8, false, false⟩, ⟨(some p17), (.mv (tm p0)), none, 9, false, false⟩, ⟨(some p19), (.ld (tm p1)), none, 11, false, false⟩, ⟨(some p20), (.ld (tm p5)), none, 12, false, false⟩, ⟨(some p21), (.ld (tm p3)), none, 13, false, false⟩, ⟨(some p22), (.mv (tm p0)), none, 14, false, false⟩, s1 (some p13) (.call (cn (CV.fn 49 [] [])) [(tm p9), (tm p10), (tm p11), (tm p12)]) 5, s1 (some p18) (.call (cn (CV.fn 49 [] [])) [(tm p14), (tm p15), (tm p16), (tm p17)]) 10, s1 (some p23) (.call (cn (CV.fn 49 [] [])) [(tm p19), (tm p20), (tm p21), (tm p22)]) 15, s1 (some p24) (.call (cn (CV.fn 29 [] [])) [(tm p8), (tm p13), (tm p18), (tm p23)]) 16, s1 (some p7) (.mv (tm p24)) 17])
  CC.ret)), [CRes.tmp p7]⟩
theorem lit48_ok : fnO tys 48 Try.f48 = some lit48 := by kernel_rfl
noncomputable def lit49 : CFn :=
  ⟨49, 29, (CC.seq (CC.run [s1 (some p8) (.mv (cn (i3 (nn 0)))) 0])
  (CC.seq (CC.run [s1 (some p10) (.mv (tm p0)) 0, s1 (some p11) (.nilck (tm p10)) 1, s1 (some p12) (.fldA 2 (tm p11)) 2, s1 (some p13) (.ld (tm p12)) 3, s1 (some p14) (.mv (tm p1)) 4, s1 (some p15) (.idxAS 3 (tm p13) (tm p14)) 5, s1 (some p16) (.ldn 3 (tm p15)) 6, s1 (some p9) (.new 74 [(i3 (nn 0)), (i3 (nn 0)), (i3 (nn 0))]) 7, s1 none (.st 3 (tm p9) (tm p16)) 8])
  (CC.seq (CC.block 0 (CC.seq (CC.run [s1 (some p18) (.fldA 0 (tm p9)) 0, s1 (some p19) (.ld (tm p18)) 1, s1 (some p20) (.mv (tm p2)) 2, s1 (some p21) (.bin .neq (tm p19) (tm p20)) 3, s1 (some p17) (.mv (tm p21)) 4])
  (CC.cond (tm p17) (CC.seq (CC.run [s1 (some p22) (.mv (tm p1)) 0, s1 (some p8) (.mv (tm p22)) 1])
  CC.ret)
  (CC.seq (CC.run [s1 (some p24) (.mv (tm p3)) 0, s1 (some p23) (.mv (tm p24)) 1])
  (CC.cond (tm p23) (CC.seq (CC.run [s1 (some p25) (.fldA 2 (tm p9)) 0, s1 (some p26) (.ld (tm p25)) 1, s1 (some p8) (.mv (tm p26)) 2])
  CC.ret)
  CC.skip)))))
  (CC.seq (CC.run [s1 (some p27) (.fldA 1 (tm p9)) 0, s1 (some p28) (.ld (tm p27)) 1, s1 (some p8) (.mv (tm p28)) 2])
  CC.ret)))), [CRes.tmp p8]⟩
theorem lit49_ok : fnO tys 49 Try.f49 = some lit49 := by kernel_rfl
noncomputable def lit50 : CFn :=
  ⟨50, 9, (CC.seq (CC.run [s1 (some p4) (.mv (cn (CV.bool false))) 0])
  (CC.seq (CC.run [s1 (some p5) (.mv (tm p0)) 0, s1 (some p6) (.mv (tm p1)) 1, s1 (some p7) (.call (cn (CV.fn 59 [] [])) [(tm p5), (tm p6)]) 2, s1 (some p8) (.bin .geq (tm p7) (cn (i6 (nn 0)))) 3, s1 (some p4) (.mv (tm p8)) 4])
  CC.ret)), [CRes.tmp p4]⟩
theorem lit50_ok : fnO tys 50 Try.f50 = some lit50 := by kernel_rfl
noncomputable def lit51 : CFn :=
  ⟨51, 14, (CC.seq (CC.run [s1 (some p3) (.mv (cn (CV.bool false))) 0])
  (CC.seq (CC.run [s1 (some p4) (.mv (tm p0)) 0, s1 (some p5) (.bin .lss (tm p4) (cn (i6 (nn 0)))) 1, s1 (some p6) (.mv (tm p5)) 2, ⟨(some p7), (.mv (tm p0)), (some (p6, false)), 3, true, true⟩, ⟨(some p8), (.ld (tm p1)), (some (p6, false)), 4, true, true⟩, ⟨(some p9), (.nilck (tm p8)), (some (p6, false)), 5, true, true⟩, ⟨(some p10), (.fldA 0 (tm p9)), (some (p6, false)), 6, true, true⟩, ⟨(some p11), (.ld (tm p10)), (some (p6, false)), 7, true, true⟩, ⟨(some p12), (.bin .geq (tm p7) (tm p11)), (some (p6, false)), 8, true, true⟩, s1 (some p13) (.pick (tm p6) (cn (CV.bool true)) (tm p12)) 9, s1 (some p3) (.mv (tm p13)) 10])
  CC.ret)), [CRes.tmp p3]⟩
theorem lit51_ok : fnO tys 51 Try.f51 = some lit51 := by kernel_rfl
noncomputable def lit52 : CFn :=
  ⟨52, 46, (CC.seq (CC.seq (CC.run [s1 (some p6) (.ld (tm p1)) 0, s1 (some p7) (.mv (tm p0)) 1, s1 (some p8) (.look KK.int (i6 (nn 0)) false (tm p6) (tm p7)) 2, s1 (some p9) (.bin .gtr (tm p8) (cn (i6 (nn 0)))) 3, s1 (some p10) (.mv (tm p9)) 4, ⟨(some p11), (.ld (tm p2)), (some (p10, false)), 5, true, true⟩, ⟨(some p12), (.nilck (tm p11)), (some (p10, false)), 6, true, true⟩, ⟨(some p13), (.fldA 6 (tm p12)), (some (p10, false)), 7, true, true⟩, ⟨(some p14), (.ld (tm p13)), (some (p10, false)), 8, true, true⟩, ⟨(some p15), (.mv (tm p0)), (some (p10, false)), 9, true, true⟩, ⟨(some p16), (.look KK.int (CV.bool false) false (tm p14) (tm p15)), (some (p10, false)), 10, true, true⟩, s1 (some p17) (.pick (tm p10) (cn (CV.bool true)) (tm p16)) 11])
  (CC.cond (tm p17) CC.ret
  CC.skip))
  (CC.seq (CC.run [s1 (some p18) (.ld (tm p1)) 0, s1 (some p19) (.mv (tm p0)) 1, s1 (some p20) (.look KK.int (i6 (nn 0)) false (tm p18) (tm p19)) 2, s1 (some p21) (.bin .add (tm p20) (cn (i6 (nn 1)))) 3, s1 none (.mupd KK.int (tm p18) (tm p19) (tm p21)) 4])
  (CC.seq (CC.run [s1 (some p22) (.ld (tm p3)) 0, s1 (some p23) (.mv (tm p0)) 1, s1 (some p24) (.bslice 21 1 1 [(i3 (nn 0))] [(0, 1, (tm p23))]) 2, s1 (some p25) (.app 21 1 4 (tm p22) (tm p24)) 3, s1 none (.st 1 (tm p3) (tm p25)) 4])
  (CC.seq (CC.draw [] [⟨(some p26), (.ld (tm p4)), none, 0, false, true⟩, ⟨(some p27), (.ld (tm p2)), none, 1, false, true⟩, ⟨(some p28), (.nilck (tm p27)), none, 2, false, true⟩, ⟨(some p29), (.fldA 2 (tm p28)), none, 3, false, true⟩, ⟨(some p30), (.ld (tm p29)), none, 4, false, true⟩, s1 (some p31) (.mv (tm p0)) 5, s1 (some p32) (.idxAS 3 (tm p30) (tm p31)) 6, s1 (some p33) (.fldA 1 (tm p32)) 7, s1 (some p34) (.ld (tm p33)) 8, s1 (some p35) (.call (tm p26) [(tm p34)]) 9])
  (CC.draw [] [⟨(some p36), (.ld (tm p4)), none, 0, false, true⟩, ⟨(some p37), (.ld (tm p2)), none, 1, false, true⟩, ⟨(some p38), (.nilck (tm p37)), none, 2, false, true⟩, ⟨(some p39), (.fldA 2 (tm p38)), none, 3, false, true⟩, ⟨(some p40), (.ld (tm p39)), none, 4, false, true⟩, s1 (some p41) (.mv (tm p0)) 5, s1 (some p42) (.idxAS 3 (tm p40) (tm p41)) 6, s1 (some p43) (.fldA 2 (tm p42)) 7, s1 (some p44) (.ld (tm p43)) 8, s1 (some p45) (.call (tm p36) [(tm p44)]) 9]))))), []⟩
theorem lit52_ok : fnO tys 52 Try.f52 = some lit52 := by kernel_rfl
noncomputable def lit53 : CFn :=
  ⟨53, 44, (CC.seq (CC.run [s1 (some p6) (.mv (cn (i3 (nn 0)))) 0])
  (CC.seq (CC.seq (CC.run [s1 (some p13) (.ld (tm p1)) 0, s1 (some p14) (.mv (tm p0)) 1, s1 (some p15) (.look KK.int (i3 (nn 0)) true (tm p13) (tm p14)) 2, s1 (some p12) (.mv (tm p15)) 3, s1 (some p16) (.extr (tm p12) 0) 4, s1 (some p17) (.extr (tm p12) 1) 5, s1 (some p7) (.mv (tm p16)) 6, s1 (some p8) (.mv (tm p17)) 7])
  (CC.seq (CC.run [s1 (some p18) (.mv (tm p8)) 0])
  (CC.cond (tm p18) (CC.seq (CC.run [s1 (some p19) (.mv (tm p7)) 0, s1 (some p6) (.mv (tm p19)) 1])
  CC.ret)
  CC.skip)))
  (CC.seq (CC.run [s1 (some p20) (.ld (tm p2)) 0, s1 (some p21) (.nilck (tm p20)) 1, s1 (some p22) (.fldA 2 (tm p21)) 2, s1 (some p23) (.ld (tm p22)) 3, s1 (some p24) (.mv (tm p0)) 4, s1 (some p25) (.idxAS 3 (tm p23) (tm p24)) 5, s1 (some p26) (.ldn 3 (tm p25)) 6, s1 (some p9) (.new 74 [(i3 (nn 0)), (i3 (nn 0)), (i3 (nn 0))]) 7, s1 none (.st 3 (tm p9) (tm p26)) 8])
  (CC.seq (CC.run [s1 (some p27) (.ld (tm p3)) 0, s1 (some p28) (.fldA 1 (tm p9)) 1, s1 (some p29) (.ld (tm p28)) 2, s1 (some p30) (.call (tm p27) [(tm p29)]) 3, s1 (some p10) (.mv (tm p30)) 4])
  (CC.seq (CC.draw [] [⟨(some p31), (.ld (tm p4)), none, 0, false, false⟩, ⟨(some p32), (.fldA 0 (tm p9)), none, 1, false, false⟩, ⟨(some p33), (.ld (tm p32)), none, 2, false, false⟩, ⟨(some p34), (.mv (tm p10)), none, 3, false, false⟩, ⟨(some p35), (.ld (tm p3)), none, 4, false, true⟩, s1 (some p36) (.fldA 2 (tm p9)) 5, s1 (some p37) (.ld (tm p36)) 6, s1 (some p38) (.call (tm p35) [(tm p37)]) 7, s1 (some p39) (.call (tm p31) [(tm p33), (tm p34), (tm p38)]) 8, s1 (some p11) (.mv (tm p39)) 9])
  (CC.seq (CC.run [s1 (some p40) (.ld (tm p1)) 0, s1 (some p41) (.mv (tm p0)) 1, s1 (some p42) (.mv (tm p11)) 2, s1 none (.mupd KK.int (tm p40) (tm p41) (tm p42)) 3])
  (CC.seq (CC.run [s1 (some p43) (.mv (tm p11)) 0, s1 (some p6) (.mv (tm p43)) 1])
  CC.ret))))))), [CRes.tmp p6]⟩
theorem lit53_ok : fnO tys 53 Try.f53 = some lit53 := by kernel_rfl
noncomputable def lit54 : CFn :=
  ⟨54, 8, (CC.seq (CC.run [s1 (some p3) (.mv (cn (CV.bool false))) 0])
  (CC.seq (CC.run [s1 (some p4) (.ld (tm p1)) 0, s1 (some p5) (.mv (tm p0)) 1, s1 (some p6) (.call (cn (CV.fn 55 [] [])) [(tm p4), (tm p5)]) 2, s1 (some p7) (.not (tm p6)) 3, s1 (some p3) (.mv (tm p7)) 4])
  CC.ret)), [CRes.tmp p3]⟩
theorem lit54_ok : fnO tys 54 Try.f54 = some lit54 := by kernel_rfl
noncomputable def lit55 : CFn :=
  ⟨55, 9, (CC.seq (CC.run [s1 (some p4) (.mv (cn (CV.bool false))) 0])
  (CC.seq (CC.run [s1 (some p5) (.mv (tm p0)) 0, s1 (some p6) (.mv (tm p1)) 1, s1 (some p7) (.call (cn (CV.fn 38 [] [])) [(tm p5), (tm p6)]) 2, s1 (some p8) (.bin .geq (tm p7) (cn (i6 (nn 0)))) 3, s1 (some p4) (.mv (tm p8)) 4])
  CC.ret)), [CRes.tmp p4]⟩
theorem lit55_ok : fnO tys 55 Try.f55 = some lit55 := by kernel_rfl
noncomputable def lit56 : CFn :=
  ⟨56, 37, (CC.seq (CC.seq (CC.run [s1 (some p6) (.ld (tm p1)) 0, s1 (some p7) (.mv (tm p0)) 1, s1 (some p8) (.look KK.int (i6 (nn 0)) false (tm p6) (tm p7)) 2, s1 (some p9) (.bin .gtr (tm p8) (cn (i6 (nn 0)))) 3])
  (CC.cond (tm p9) CC.ret
  CC.skip))
  (CC.seq (CC.run [s1 (some p10) (.ld (tm p1)) 0, s1 (some p11) (.mv (tm p0)) 1, s1 (some p12) (.look KK.int (i6 (nn 0)) false (tm p10) (tm p11)) 2, s1 (some p13) (.bin .add (tm p12) (cn (i6 (nn 1)))) 3, s1 none (.mupd KK.int (tm p10) (tm p11) (tm p13)) 4])
  (CC.seq (CC.run [s1 (some p14) (.ld (tm p2)) 0, s1 (some p15) (.mv (tm p0)) 1, s1 (some p16) (.call (tm p14) [(tm p15)]) 2])
  (CC.seq (CC.draw [] [⟨(some p17), (.ld (tm p3)), none, 0, false, true⟩, ⟨(some p18), (.ld (tm p4)), none, 1, false, true⟩, ⟨(some p19), (.nilck (tm p18)), none, 2, false, true⟩, ⟨(some p20), (.fldA 2 (tm p19)), none, 3, false, true⟩, ⟨(some p21), (.ld (tm p20)), none, 4, false, true⟩, s1 (some p22) (.mv (tm p0)) 5, s1 (some p23) (.idxAS 3 (tm p21) (tm p22)) 6, s1 (some p24) (.fldA 1 (tm p23)) 7, s1 (some p25) (.ld (tm p24)) 8, s1 (some p26) (.call (tm p17) [(tm p25)]) 9])
  (CC.draw [] [⟨(some p27), (.ld (tm p3)), none, 0, false, true⟩, ⟨(some p28), (.ld (tm p4)), none, 1, false, true⟩, ⟨(some p29), (.nilck (tm p28)), none, 2, false, true⟩, ⟨(some p30), (.fldA 2 (tm p29)), none, 3, false, true⟩, ⟨(some p31), (.ld (tm p30)), none, 4, false, true⟩, s1 (some p32) (.mv (tm p0)) 5, s1 (some p33) (.idxAS 3 (tm p31) (tm p32)) 6, s1 (some p34) (.fldA 2 (tm p33)) 7, s1 (some p35) (.ld (tm p34)) 8, s1 (some p36) (.call (tm p27) [(tm p35)]) 9]))))), []⟩
theorem lit56_ok : fnO tys 56 Try.f56 = some lit56 := by kernel_rfl
noncomputable def lit57 : CFn :=
  ⟨57, 134, (CC.seq (CC.run [s1 (some p8) (.mv (cn (CV.bool true))) 0])
  (CC.seq (CC.run [s1 (some p9) (.mv (cn (CV.bool true))) 0])
  (CC.block 0 (CC.loop (CC.block 1 (CC.seq (CC.run [s1 (some p19) (.mv (tm p2)) 0, s1 (some p20) (.mv (tm p1)) 1, s1 (some p21) (.bin .sub (tm p19) (tm p20)) 2, s1 (some p10) (.mv (tm p21)) 3])
  (CC.seq (CC.seq (CC.run [s1 (some p22) (.mv (tm p10)) 0, s1 (some p23) (.bin .leq (tm p22) (cn (i6 (nn 12)))) 1])
  (CC.cond (tm p23) (CC.seq (CC.run [s1 (some p24) (.mv (tm p0)) 0, s1 (some p25) (.mv (tm p1)) 1, s1 (some p26) (.mv (tm p2)) 2, s1 (some p27) (.call (cn (CV.fn 60 [] [])) [(tm p24), (tm p25), (tm p26)]) 3])
  CC.ret)
  CC.skip))
  (CC.seq (CC.seq (CC.run [s1 (some p28) (.mv (tm p3)) 0, s1 (some p29) (.bin .eql (tm p28) (cn (i6 (nn 0)))) 1])
  (CC.cond (tm p29) (CC.seq (CC.run [s1 (some p30) (.mv (tm p0)) 0, s1 (some p31) (.mv (tm p1)) 1, s1 (some p32) (.mv (tm p2)) 2, s1 (some p33) (.call (cn (CV.fn 61 [] [])) [(tm p30), (tm p31), (tm p32)]) 3])
  CC.ret)
  CC.skip))
  (CC.seq (CC.seq (CC.run [s1 (some p34) (.mv (tm p8)) 0, s1 (some p35) (.not (tm p34)) 1])
  (CC.cond (tm p35) (CC.seq (CC.run [s1 (some p36) (.mv (tm p0)) 0, s1 (some p37) (.mv (tm p1)) 1, s1 (some p38) (.mv (tm p2)) 2, s1 (some p39) (.call (cn (CV.fn 62 [] [])) [(tm p36), (tm p37), (tm p38)]) 3])
  (CC.run [s1 (some p40) (.mv (tm p3)) 0, s1 (some p41) (.bin .sub (tm p40) (cn (i6 (nn 1)))) 1, s1 (some p3) (.mv (tm p41)) 2]))
  CC.skip))
  (CC.seq (CC.run [s1 (some p43) (.mv (tm p0)) 0, s1 (some p44) (.mv (tm p1)) 1, s1 (some p45) (.mv (tm p2)) 2, s1 (some p46) (.call (cn (CV.fn 63 [] [])) [(tm p43), (tm p44), (tm p45)]) 3, s1 (some p42) (.mv (tm p46)) 4, s1 (some p47) (.extr (tm p42) 0) 5, s1 (some p48) (.extr (tm p42) 1) 6, s1 (some p11) (.mv (tm p47)) 7, s1 (some p12) (.mv (tm p48)) 8])
  (CC.seq (CC.seq (CC.run [s1 (some p49) (.mv (tm p12)) 0, s1 (some p50) (.bin .eql (tm p49) (cn (i6 (nn 2)))) 1])
  (CC.cond (tm p50) (CC.seq (CC.run [s1 (some p51) (.mv (tm p0)) 0, s1 (some p52) (.mv (tm p1)) 1, s1 (some p53) (.mv (tm p2)) 2, s1 (some p54) (.call (cn (CV.fn 64 [] [])) [(tm p51), (tm p52), (tm p53)]) 3])
  (CC.seq (CC.run [s1 (some p55) (.mv (tm p2)) 0, s1 (some p56) (.bin .sub (tm p55) (cn (i6 (nn 1)))) 1, s1 (some p57) (.mv (tm p11)) 2, s1 (some p58) (.mv (tm p1)) 3, s1 (some p59) (.bin .sub (tm p57) (tm p58)) 4, s1 (some p60) (.bin .sub (tm p56) (tm p59)) 5, s1 (some p11) (.mv (tm p60)) 6])
  (CC.run [s1 (some p12) (.mv (cn (i6 (nn 1)))) 0])))
  CC.skip))
  (CC.seq (CC.seq (CC.run [s1 (some p61) (.mv (tm p8)) 0, s1 (some p62) (.mv (tm p61)) 1, ⟨(some p63), (.mv (tm p9)), (some (p62, true)), 2, true, true⟩, s1 (some p64) (.pick (tm p62) (tm p63) (cn (CV.bool false))) 3, s1 (some p65) (.mv (tm p64)) 4, ⟨(some p66), (.mv (tm p12)), (some (p65, true)), 5, true, true⟩, ⟨(some p67), (.bin .eql (tm p66) (cn (i6 (nn 1)))), (some (p65, true)), 6, true, true⟩, s1 (some p68) (.pick (tm p65) (tm p67) (cn (CV.bool false))) 7])
  (CC.cond (tm p68) (CC.seq (CC.run [s1 (some p69) (.mv (tm p0)) 0, s1 (some p70) (.mv (tm p1)) 1, s1 (some p71) (.mv (tm p2)) 2, s1 (some p72) (.call (cn (CV.fn 65 [] [])) [(tm p69), (tm p70), (tm p71)]) 3])
  (CC.cond (tm p72) CC.ret
  CC.skip))
  CC.skip))
  (CC.seq (CC.seq (CC.draw [] [s1 (some p73) (.mv (tm p1)) 0, s1 (some p74) (.bin .gtr (tm p73) (cn (i6 (nn 0)))) 1, s1 (some p75) (.mv (tm p74)) 2, ⟨(some p76), (.mv (tm p0)), (some (p75, true)), 3, false, true⟩, ⟨(some p77), (.mv (tm p1)), (some (p75, true)), 4, false, true⟩, ⟨(some p78), (.bin .sub (tm p77) (cn (i6 (nn 1)))), (some (p75, true)), 5, false, true⟩, ⟨(some p79), (.idxAS 1 (tm p76) (tm p78)), (some (p75, true)), 6, false, true⟩, ⟨(some p80), (.ld (tm p79)), (some (p75, true)), 7, false, true⟩, ⟨(some p81), (.mv (tm p0)), (some (p75, true)), 8, false, true⟩, ⟨(some p82), (.mv (tm p11)), (some (p75, true)), 9, true, true⟩, ⟨(some p83), (.idxAS 1 (tm p81) (tm p82)), (some (p75, true)), 10, true, true⟩, ⟨(some p84), (.ld (tm p83)), (some (p75, true)), 11, true, true⟩, ⟨(some p85), (.call (cn (CV.fn 66 [] [])) [(tm p80), (tm p84)]), (some (p75, true)), 12, true, true⟩, ⟨(some p86), (.not (tm p85)), (some (p75, true)), 13, true, true⟩, s1 (some p87) (.pick (tm p75) (tm p86) (cn (CV.bool false))) 14])
  (CC.cond (tm p87) (CC.seq (CC.run [s1 (some p88) (.mv (tm p0)) 0, s1 (some p89) (.mv (tm p1)) 1, s1 (some p90) (.mv (tm p2)) 2, s1 (some p91) (.mv (tm p11)) 3, s1 (some p92) (.call (cn (CV.fn 67 [] [])) [(tm p88), (tm p89), (tm p90), (tm p91)]) 4, s1 (some p13) (.mv (tm p92)) 5])
  (CC.seq (CC.run [s1 (some p93) (.mv (tm p13)) 0, s1 (some p1) (.mv (tm p93)) 1])
  (CC.exit 1)))
  CC.skip))
  (CC.seq (CC.run [s1 (some p95) (.mv (tm p0)) 0, s1 (some p96) (.mv (tm p1)) 1, s1 (some p97) (.mv (tm p2)) 2, s1 (some p98) (.mv (tm p11)) 3, s1 (some p99) (.call (cn (CV.fn 68 [] [])) [(tm p95), (tm p96), (tm p97), (tm p98)]) 4, s1 (some p94) (.mv (tm p99)) 5, s1 (some p100) (.extr (tm p94) 0) 6, s1 (some p101) (.extr (tm p94) 1) 7, s1 (some p14) (.mv (tm p100)) 8, s1 (some p15) (.mv (tm p101)) 9])
  (CC.seq (CC.run [s1 (some p102) (.mv (tm p15)) 0, s1 (some p9) (.mv (tm p102)) 1])
  (CC.seq (CC.run [s1 (some p103) (.mv (tm p14)) 0, s1 (some p104) (.mv (tm p1)) 1, s1 (some p105) (.bin .sub (tm p103) (tm p104)) 2, s1 (some p106) (.mv (tm p2)) 3, s1 (some p107) (.mv (tm p14)) 4, s1 (some p108) (.bin .sub (tm p106) (tm p107)) 5, s1 (some p16) (.mv (tm p105)) 6, s1 (some p17) (.mv (tm p108)) 7])
  (CC.seq (CC.run [s1 (some p109) (.mv (tm p10)) 0, s1 (some p110) (.bin .quo (tm p109) (cn (i6 (nn 8)))) 1, s1 (some p18) (.mv (tm p110)) 2])
  (CC.seq (CC.run [s1 (some p111) (.mv (tm p16)) 0, s1 (some p112) (.mv (tm p17)) 1, s1 (some p113) (.bin .lss (tm p111) (tm p112)) 2])
  (CC.cond (tm p113) (CC.seq (CC.run [s1 (some p114) (.mv (tm p16)) 0, s1 (some p115) (.mv (tm p18)) 1, s1 (some p116) (.bin .geq (tm p114) (tm p115)) 2, s1 (some p8) (.mv (tm p116)) 3])
  (CC.seq (CC.run [s1 (some p117) (.mv (tm p0)) 0, s1 (some p118) (.mv (tm p1)) 1, s1 (some p119) (.mv (tm p14)) 2, s1 (some p120) (.mv (tm p3)) 3, s1 (some p121) (.call (cn (CV.fn 57 [] [])) [(tm p117), (tm p118), (tm p119), (tm p120)]) 4])
  (CC.run [s1 (some p122) (.mv (tm p14)) 0, s1 (some p123) (.bin .add (tm p122) (cn (i6 (nn 1)))) 1, s1 (some p1) (.mv (tm p123)) 2])))
  (CC.seq (CC.run [s1 (some p124) (.mv (tm p17)) 0, s1 (some p125) (.mv (tm p18)) 1, s1 (some p126) (.bin .geq (tm p124) (tm p125)) 2, s1 (some p8) (.mv (tm p126)) 3])
  (CC.seq (CC.run [s1 (some p127) (.mv (tm p0)) 0, s1 (some p128) (.mv (tm p14)) 1, s1 (some p129) (.bin .add (tm p128) (cn (i6 (nn 1)))) 2, s1 (some p130) (.mv (tm p2)) 3, s1 (some p131) (.mv (tm p3)) 4, s1 (some p132) (.call (cn (CV.fn 57 [] [])) [(tm p127), (tm p129), (tm p130), (tm p131)]) 5])
  (CC.run [s1 (some p133) (.mv (tm p14)) 0, s1 (some p2) (.mv (tm p133)) 1])))))))))))))))))))))), []⟩
theorem lit57_ok : fnO tys 57 Try.f57 = some lit57 := by kernel_rfl
noncomputable def lit58 : CFn :=
  ⟨58, 8, (CC.seq (CC.run [s1 (some p2) (.mv (cn (i6 (nn 0)))) 0])
  (CC.seq (CC.cond (cn (CV.bool false)) (CC.seq (CC.run [s1 (some p3) (.mv (tm p0)) 0, s1 (some p4) (.conv .u32 (tm p3)) 1, s1 (some p5) (.call (cn (CV.fn 69 [] [])) [(tm p4)]) 2, s1 (some p2) (.mv (tm p5)) 3])
  CC.ret)
  CC.skip)
  (CC.seq (CC.run [s1 (some p6) (.mv (tm p0)) 0, s1 (some p7) (.call (cn (CV.fn 70 [] [])) [(tm p6)]) 1, s1 (some p2) (.mv (tm p7)) 2])
  CC.ret))), [CRes.tmp p2]⟩
theorem lit58_ok : fnO tys 58 Try.f58 = some lit58 := by kernel_rfl
noncomputable def lit59 : CFn :=
  ⟨59, 19, (CC.seq (CC.run [s1 (some p4) (.mv (cn (i6 (nn 0)))) 0])
  (CC.seq (CC.seq (CC.run [s1 (some p6) (.mv (tm p0)) 0, s1 (some p7) (.len false (tm p6)) 1, s1 (some p8) (.mv (cn (i6 (nn 0)))) 2])
  (CC.block 0 (CC.loop (CC.seq (CC.run [s1 (some p9) (.bin .lss (tm p8) (tm p7)) 0])
  (CC.seq (CC.cond (tm p9) CC.skip
  (CC.exit 0))
  (CC.seq (CC.block 1 (CC.seq (CC.run [s1 (some p10) (.mv (tm p8)) 0, s1 (some p5) (.mv (tm p10)) 1])
  (CC.seq (CC.run [s1 (some p11) (.mv (tm p1)) 0, s1 (some p12) (.mv (tm p0)) 1, s1 (some p13) (.mv (tm p5)) 2, s1 (some p14) (.idxAS 1 (tm p12) (tm p13)) 3, s1 (some p15) (.ld (tm p14)) 4, s1 (some p16) (.call (tm p11) [(tm p15)]) 5])
  (CC.cond (tm p16) (CC.seq (CC.run [s1 (some p17) (.mv (tm p5)) 0, s1 (some p4) (.mv (tm p17)) 1])
  CC.ret)
  CC.skip))))
  (CC.run [s1 (some p18) (.bin .add (tm p8) (cn (i6 (nn 1)))) 0, s1 (some p8) (.mv (tm p18)) 1])))))))
  (CC.seq (CC.run [s1 (some p4) (.mv (cn (i6 (Int.negSucc 0)))) 0])
  CC.ret))), [CRes.tmp p4]⟩
theorem lit59_ok : fnO tys 59 Try.f59 = some lit59 := by kernel_rfl
noncomputable def lit60 : CFn :=
  ⟨60, 49, (CC.seq (CC.run [s1 (some p8) (.mv (tm p1)) 0, s1 (some p9) (.bin .add (tm p8) (cn (i6 (nn 1)))) 1, s1 (some p6) (.mv (tm p9)) 2])
  (CC.block 0 (CC.loop (CC.seq (CC.seq (CC.run [s1 (some p10) (.mv (tm p6)) 0, s1 (some p11) (.mv (tm p2)) 1, s1 (some p12) (.bin .lss (tm p10) (tm p11)) 2])
  (CC.cond (tm p12) CC.skip
  (CC.exit 0)))
  (CC.seq (CC.block 1 (CC.seq (CC.run [s1 (some p15) (.mv (tm p6)) 0, s1 (some p7) (.mv (tm p15)) 1])
  (CC.block 2 (CC.loop (CC.seq (CC.seq (CC.draw [] [⟨(some p16), (.mv (tm p7)), none, 0, false, true⟩, s1 (some p17) (.mv (tm p1)) 1, s1 (some p18) (.bin .gtr (tm p16) (tm p17)) 2, s1 (some p19) (.mv (tm p18)) 3, ⟨(some p20), (.mv (tm p0)), (some (p19, true)), 4, false, true⟩, ⟨(some p21), (.mv (tm p7)), (some (p19, true)), 5, false, true⟩, ⟨(some p22), (.idxAS 1 (tm p20) (tm p21)), (some (p19, true)), 6, false, true⟩, ⟨(some p23), (.ld (tm p22)), (some (p19, true)), 7, false, true⟩, ⟨(some p24), (.mv (tm p0)), (some (p19, true)), 8, false, true⟩, ⟨(some p25), (.mv (tm p7)), (some (p19, true)), 9, true, true⟩, ⟨(some p26), (.bin .sub (tm p25) (cn (i6 (nn 1)))), (some (p19, true)), 10, true, true⟩, ⟨(some p27), (.idxAS 1 (tm p24) (tm p26)), (some (p19, true)), 11, true, true⟩, ⟨(some p28), (.ld (tm p27)), (some (p19, true)), 12, true, true⟩, ⟨(some p29), (.call (cn (CV.fn 66 [] [])) [(tm p23), (tm p28)]), (some (p19, true)), 13, true, true⟩, s1 (some p30) (.pick (tm p19) (tm p29) (cn (CV.bool false))) 14])
  (CC.cond (tm p30) CC.skip
  (CC.exit 2)))
  (CC.seq (CC.block 3 (CC.draw [] [⟨(some p33), (.mv (tm p0)), none, 0, false, true⟩, ⟨(some p34), (.mv (tm p7)), none, 1, false, true⟩, ⟨(some p35), (.mv (tm p0)), none, 2, false, false⟩, ⟨(some p36), (.mv (tm p7)), none, 3, false, false⟩, ⟨(some p37), (.bin .sub (tm p36) (cn (i6 (nn 1)))), none, 4, false, false⟩, ⟨(some p38), (.mv (tm p0)), none, 5, false, true⟩, ⟨(some p39), (.mv (tm p7)), none, 6, false, true⟩, ⟨(some p40), (.bin .sub (tm p39) (cn (i6 (nn 1)))), none, 7, false, true⟩, ⟨(some p41), (.idxAS 1 (tm p38) (tm p40)), none, 8, false, true⟩, ⟨(some p42), (.ld (tm p41)), none, 9, false, true⟩, ⟨(some p43), (.mv (tm p0)), none, 10, false, true⟩, s1 (some p44) (.mv (tm p7)) 11, s1 (some p45) (.idxAS 1 (tm p43) (tm p44)) 12, s1 (some p46) (.ld (tm p45)) 13, s1 (some p47) (.idxAS 1 (tm p33) (tm p34)) 14, s1 none (.st 1 (tm p47) (tm p42)) 15, s1 (some p48) (.idxAS 1 (tm p35) (tm p37)) 16, s1 none (.st 1 (tm p48) (tm p46)) 17]))
  (CC.run [s1 (some p31) (.mv (tm p7)) 0, s1 (some p32) (.bin .sub (tm p31) (cn (i6 (nn 1)))) 1, s1 (some p7) (.mv (tm p32)) 2])))))))
  (CC.run [s1 (some p13) (.mv (tm p6)) 0, s1 (some p14) (.bin .add (tm p13) (cn (i6 (nn 1)))) 1, s1 (some p6) (.mv (tm p14)) 2])))))), []⟩
theorem lit60_ok : fnO tys 60 Try.f60 = some lit60 := by kernel_rfl
noncomputable def lit61 : CFn :=
  ⟨61, 56, (CC.seq (CC.run [s1 (some p11) (.mv (tm p1)) 0, s1 (some p6) (.mv (tm p11)) 1])
  (CC.seq (CC.run [s1 (some p7) (.mv (cn (i6 (nn 0)))) 0])
  (CC.seq (CC.run [s1 (some p12) (.mv (tm p2)) 0, s1 (some p13) (.mv (tm p1)) 1, s1 (some p14) (.bin .sub (tm p12) (tm p13)) 2, s1 (some p8) (.mv (tm p14)) 3])
  (CC.seq (CC.seq (CC.run [s1 (some p15) (.mv (tm p8)) 0, s1 (some p16) (.bin .sub (tm p15) (cn (i6 (nn 1)))) 1, s1 (some p17) (.bin .quo (tm p16) (cn (i6 (nn 2)))) 2, s1 (some p9) (.mv (tm p17)) 3])
  (CC.block 0 (CC.loop (CC.seq (CC.seq (CC.run [s1 (some p18) (.mv (tm p9)) 0, s1 (some p19) (.bin .geq (tm p18) (cn (i6 (nn 0)))) 1])
  (CC.cond (tm p19) CC.skip
  (CC.exit 0)))
  (CC.seq (CC.block 1 (CC.run [s1 (some p22) (.mv (tm p0)) 0, s1 (some p23) (.mv (tm p9)) 1, s1 (some p24) (.mv (tm p8)) 2, s1 (some p25) (.mv (tm p6)) 3, s1 (some p26) (.call (cn (CV.fn 71 [] [])) [(tm p22), (tm p23), (tm p24), (tm p25)]) 4]))
  (CC.run [s1 (some p20) (.mv (tm p9)) 0, s1 (some p21) (.bin .sub (tm p20) (cn (i6 (nn 1)))) 1, s1 (some p9) (.mv (tm p21)) 2]))))))
  (CC.seq (CC.run [s1 (some p27) (.mv (tm p8)) 0, s1 (some p28) (.bin .sub (tm p27) (cn (i6 (nn 1)))) 1, s1 (some p10) (.mv (tm p28)) 2])
  (CC.block 2 (CC.loop (CC.seq (CC.seq (CC.run [s1 (some p29) (.mv (tm p10)) 0, s1 (some p30) (.bin .geq (tm p29) (cn (i6 (nn 0)))) 1])
  (CC.cond (tm p30) CC.skip
  (CC.exit 2)))
  (CC.seq (CC.block 3 (CC.seq (CC.draw [] [⟨(some p33), (.mv (tm p0)), none, 0, false, true⟩, ⟨(some p34), (.mv (tm p6)), none, 1, false, true⟩, ⟨(some p35), (.mv (tm p0)), none, 2, false, false⟩, ⟨(some p36), (.mv (tm p6)), none, 3, false, false⟩, ⟨(some p37), (.mv (tm p10)), none, 4, false, false⟩, ⟨(some p38), (.bin .add (tm p36) (tm p37)), none, 5, false, false⟩, ⟨(some p39), (.mv (tm p0)), none, 6, false, true⟩, ⟨(some p40), (.mv (tm p6)), none, 7, false, true⟩, ⟨(some p41), (.mv (tm p10)), none, 8, false, true⟩, ⟨(some p42), (.bin .add (tm p40) (tm p41)), none, 9, false, true⟩, ⟨(some p43), (.idxAS 1 (tm p39) (tm p42)), none, 10, false, true⟩, ⟨(some p44), (.ld (tm p43)), none, 11, false, true⟩, ⟨(some p45), (.mv (tm p0)), none, 12, false, true⟩, s1 (some p46) (.mv (tm p6)) 13, s1 (some p47) (.idxAS 1 (tm p45) (tm p46)) 14, s1 (some p48) (.ld (tm p47)) 15, s1 (some p49) (.idxAS 1 (tm p33) (tm p34)) 16, s1 none (.st 1 (tm p49) (tm p44)) 17, s1 (some p50) (.idxAS 1 (tm p35) (tm p38)) 18, s1 none (.st 1 (tm p50) (tm p48)) 19])
  (CC.run [s1 (some p51) (.mv (tm p0)) 0, s1 (some p52) (.mv (tm p7)) 1, s1 (some p53) (.mv (tm p10)) 2, s1 (some p54) (.mv (tm p6)) 3, s1 (some p55) (.call (cn (CV.fn 71 [] [])) [(tm p51), (tm p52), (tm p53), (tm p54)]) 4])))
  (CC.run [s1 (some p31) (.mv (tm p10)) 0, s1 (some p32) (.bin .sub (tm p31) (cn (i6 (nn 1)))) 1, s1 (some p10) (.mv (tm p32)) 2])))))))))), []⟩
theorem lit61_ok : fnO tys 61 Try.f61 = some lit61 := by kernel_rfl
noncomputable def lit62 : CFn :=
  ⟨62, 65, (CC.seq (CC.run [s1 (some p11) (.mv (tm p2)) 0, s1 (some p12) (.mv (tm p1)) 1, s1 (some p13) (.bin .sub (tm p11) (tm p12)) 2, s1 (some p6) (.mv (tm p13)) 3])
  (CC.seq (CC.run [s1 (some p14) (.mv (tm p6)) 0, s1 (some p15) (.bin .geq (tm p14) (cn (i6 (nn 8)))) 1])
  (CC.cond (tm p15) (CC.seq (CC.run [s1 (some p16) (.mv (tm p6)) 0, s1 (some p17) (.conv .u64 (tm p16)) 1, s1 (some p7) (.new 120 [(CV.int .u64 (nn 0))]) 2, s1 none (.st 1 (tm p7) (tm p17)) 3])
  (CC.seq (CC.run [s1 (some p18) (.mv (tm p6)) 0, s1 (some p19) (.call (cn (CV.fn 72 [] [])) [(tm p18)]) 1, s1 (some p8) (.mv (tm p19)) 2])
  (CC.seq (CC.run [s1 (some p20) (.mv (tm p1)) 0, s1 (some p21) (.mv (tm p6)) 1, s1 (some p22) (.bin .quo (tm p21) (cn (i6 (nn 4)))) 2, s1 (some p23) (.bin .mul (tm p22) (cn (i6 (nn 2)))) 3, s1 (some p24) (.bin .add (tm p20) (tm p23)) 4, s1 (some p25) (.bin .sub (tm p24) (cn (i6 (nn 1)))) 5, s1 (some p9) (.mv (tm p25)) 6])
  (CC.block 0 (CC.loop (CC.seq (CC.seq (CC.run [s1 (some p26) (.mv (tm p9)) 0, s1 (some p27) (.mv (tm p1)) 1, s1 (some p28) (.mv (tm p6)) 2, s1 (some p29) (.bin .quo (tm p28) (cn (i6 (nn 4)))) 3, s1 (some p30) (.bin .mul (tm p29) (cn (i6 (nn 2)))) 4, s1 (some p31) (.bin .add (tm p27) (tm p30)) 5, s1 (some p32) (.bin .add (tm p31) (cn (i6 (nn 1)))) 6, s1 (some p33) (.bin .leq (tm p26) (tm p32)) 7])
  (CC.cond (tm p33) CC.skip
  (CC.exit 0)))
  (CC.seq (CC.block 1 (CC.seq (CC.run [s1 (some p36) (.call (cn (CV.fn 73 [] [])) [(tm p7)]) 0, s1 (some p37) (.mv (tm p8)) 1, s1 (some p38) (.bin .sub (tm p37) (cn (CV.int .u64 (nn 1)))) 2, s1 (some p39) (.bin .and (tm p36) (tm p38)) 3, s1 (some p40) (.conv .i64 (tm p39)) 4, s1 (some p10) (.mv (tm p40)) 5])
  (CC.seq (CC.seq (CC.run [s1 (some p41) (.mv (tm p10)) 0, s1 (some p42) (.mv (tm p6)) 1, s1 (some p43) (.bin .geq (tm p41) (tm p42)) 2])
  (CC.cond (tm p43) (CC.run [s1 (some p44) (.mv (tm p10)) 0, s1 (some p45) (.mv (tm p6)) 1, s1 (some p46) (.bin .sub (tm p44) (tm p45)) 2, s1 (some p10) (.mv (tm p46)) 3])
  CC.skip))
  (CC.draw [] [⟨(some p47), (.mv (tm p0)), none, 0, false, true⟩, ⟨(some p48), (.mv (tm p9)), none, 1, false, true⟩, ⟨(some p49), (.mv (tm p0)), none, 2, false, false⟩, ⟨(some p50), (.mv (tm p1)), none, 3, false, false⟩, ⟨(some p51), (.mv (tm p10)), none, 4, false, false⟩, ⟨(some p52), (.bin .add (tm p50) (tm p51)), none, 5, false, false⟩, ⟨(some p53), (.mv (tm p0)), none, 6, false, true⟩, ⟨(some p54), (.mv (tm p1)), none, 7, false, true⟩, ⟨(some p55), (.mv (tm p10)), none, 8, false, true⟩, ⟨(some p56), (.bin .add (tm p54) (tm p55)), none, 9, false, true⟩, ⟨(some p57), (.idxAS 1 (tm p53) (tm p56)), none, 10, false, true⟩, ⟨(some p58), (.ld (tm p57)), none, 11, false, true⟩, ⟨(some p59), (.mv (tm p0)), none, 12, false, true⟩, s1 (some p60) (.mv (tm p9)) 13, s1 (some p61) (.idxAS 1 (tm p59) (tm p60)) 14, s1 (some p62) (.ld (tm p61)) 15, s1 (some p63) (.idxAS 1 (tm p47) (tm p48)) 16, s1 none (.st 1 (tm p63) (tm p58)) 17, s1 (some p64) (.idxAS 1 (tm p49) (tm p52)) 18, s1 none (.st 1 (tm p64) (tm p62)) 19]))))
  (CC.run [s1 (some p34) (.mv (tm p9)) 0, s1 (some p35) (.bin .add (tm p34) (cn (i6 (nn 1)))) 1, s1 (some p9) (.mv (tm p35)) 2]))))))))
  CC.skip))), []⟩
theorem lit62_ok : fnO tys 62 Try.f62 = some lit62 := by kernel_rfl
noncomputable def lit63 : CFn :=
  ⟨63, 57, (CC.seq (CC.run [s1 (some p6) (.mv (cn (i6 (nn 0)))) 0, s1 (some p7) (.mv (cn (i6 (nn 0)))) 1])
  (CC.seq (CC.run [s1 (some p13) (.mv (tm p2)) 0, s1 (some p14) (.mv (tm p1)) 1, s1 (some p15) (.bin .sub (tm p13) (tm p14)) 2, s1 (some p8) (.mv (tm p15)) 3])
  (CC.seq (CC.run [s1 (some p9) (.new 3 [(i6 (nn 0))]) 0])
  (CC.seq (CC.run [s1 (some p16) (.mv (tm p1)) 0, s1 (some p17) (.mv (tm p8)) 1, s1 (some p18) (.bin .quo (tm p17) (cn (i6 (nn 4)))) 2, s1 (some p19) (.bin .mul (tm p18) (cn (i6 (nn 1)))) 3, s1 (some p20) (.bin .add (tm p16) (tm p19)) 4, s1 (some p10) (.mv (tm p20)) 5])
  (CC.seq (CC.run [s1 (some p21) (.mv (tm p1)) 0, s1 (some p22) (.mv (tm p8)) 1, s1 (some p23) (.bin .quo (tm p22) (cn (i6 (nn 4)))) 2, s1 (some p24) (.bin .mul (tm p23) (cn (i6 (nn 2)))) 3, s1 (some p25) (.bin .add (tm p21) (tm p24)) 4, s1 (some p11) (.mv (tm p25)) 5])
  (CC.seq (CC.run [s1 (some p26) (.mv (tm p1)) 0, s1 (some p27) (.mv (tm p8)) 1, s1 (some p28) (.bin .quo (tm p27) (cn (i6 (nn 4)))) 2, s1 (some p29) (.bin .mul (tm p28) (cn (i6 (nn 3)))) 3, s1 (some p30) (.bin .add (tm p26) (tm p29)) 4, s1 (some p12) (.mv (tm p30)) 5])
  (CC.seq (CC.seq (CC.run [s1 (some p31) (.mv (tm p8)) 0, s1 (some p32) (.bin .geq (tm p31) (cn (i6 (nn 8)))) 1])
  (CC.cond (tm p32) (CC.seq (CC.seq (CC.run [s1 (some p33) (.mv (tm p8)) 0, s1 (some p34) (.bin .geq (tm p33) (cn (i6 (nn 50)))) 1])
  (CC.cond (tm p34) (CC.seq (CC.run [s1 (some p35) (.mv (tm p0)) 0, s1 (some p36) (.mv (tm p10)) 1, s1 (some p37) (.call (cn (CV.fn 74 [] [])) [(tm p35), (tm p36), (tm p9)]) 2, s1 (some p10) (.mv (tm p37)) 3])
  (CC.seq (CC.run [s1 (some p38) (.mv (tm p0)) 0, s1 (some p39) (.mv (tm p11)) 1, s1 (some p40) (.call (cn (CV.fn 74 [] [])) [(tm p38), (tm p39), (tm p9)]) 2, s1 (some p11) (.mv (tm p40)) 3])
  (CC.run [s1 (some p41) (.mv (tm p0)) 0, s1 (some p42) (.mv (tm p12)) 1, s1 (some p43) (.call (cn (CV.fn 74 [] [])) [(tm p41), (tm p42), (tm p9)]) 2, s1 (some p12) (.mv (tm p43)) 3])))
  CC.skip))
  (CC.run [s1 (some p44) (.mv (tm p0)) 0, s1 (some p45) (.mv (tm p10)) 1, s1 (some p46) (.mv (tm p11)) 2, s1 (some p47) (.mv (tm p12)) 3, s1 (some p48) (.call (cn (CV.fn 75 [] [])) [(tm p44), (tm p45), (tm p46), (tm p47), (tm p9)]) 4, s1 (some p11) (.mv (tm p48)) 5]))
  CC.skip))
  (CC.seq (CC.run [s1 (some p49) (.ld (tm p9)) 0])
  (CC.block 0 (CC.seq (CC.run [s1 (some p52) (.bin .eql (tm p49) (cn (i6 (nn 0)))) 0, s1 (some p51) (.mv (tm p52)) 1])
  (CC.cond (tm p51) (CC.seq (CC.run [s1 (some p53) (.mv (tm p11)) 0, s1 (some p6) (.mv (tm p53)) 1, s1 (some p7) (.mv (cn (i6 (nn 1)))) 2])
  CC.ret)
  (CC.seq (CC.run [s1 (some p55) (.bin .eql (tm p49) (cn (i6 (nn 12)))) 0, s1 (some p54) (.mv (tm p55)) 1])
  (CC.cond (tm p54) (CC.seq (CC.run [s1 (some p56) (.mv (tm p11)) 0, s1 (some p6) (.mv (tm p56)) 1, s1 (some p7) (.mv (cn (i6 (nn 2)))) 2])
  CC.ret)
  (CC.seq (CC.run [s1 (some p50) (.mv (tm p11)) 0, s1 (some p6) (.mv (tm p50)) 1, s1 (some p7) (.mv (cn (i6 (nn 0)))) 2])
  CC.ret)))))))))))))), [CRes.tmp p6, CRes.tmp p7]⟩
theorem lit63_ok : fnO tys 63 Try.f63 = some lit63 := by kernel_rfl
noncomputable def lit64 : CFn :=
  ⟨64, 32, (CC.seq (CC.run [s1 (some p8) (.mv (tm p1)) 0, s1 (some p6) (.mv (tm p8)) 1])
  (CC.seq (CC.run [s1 (some p9) (.mv (tm p2)) 0, s1 (some p10) (.bin .sub (tm p9) (cn (i6 (nn 1)))) 1, s1 (some p7) (.mv (tm p10)) 2])
  (CC.block 0 (CC.loop (CC.seq (CC.seq (CC.run [s1 (some p11) (.mv (tm p6)) 0, s1 (some p12) (.mv (tm p7)) 1, s1 (some p13) (.bin .lss (tm p11) (tm p12)) 2])
  (CC.cond (tm p13) CC.skip
  (CC.exit 0)))
  (CC.block 1 (CC.seq (CC.draw [] [⟨(some p14), (.mv (tm p0)), none, 0, false, true⟩, ⟨(some p15), (.mv (tm p6)), none, 1, false, true⟩, ⟨(some p16), (.mv (tm p0)), none, 2, false, false⟩, ⟨(some p17), (.mv (tm p7)), none, 3, false, false⟩, ⟨(some p18), (.mv (tm p0)), none, 4, false, true⟩, ⟨(some p19), (.mv (tm p7)), none, 5, false, true⟩, ⟨(some p20), (.idxAS 1 (tm p18) (tm p19)), none, 6, false, true⟩, ⟨(some p21), (.ld (tm p20)), none, 7, false, true⟩, ⟨(some p22), (.mv (tm p0)), none, 8, false, true⟩, s1 (some p23) (.mv (tm p6)) 9, s1 (some p24) (.idxAS 1 (tm p22) (tm p23)) 10, s1 (some p25) (.ld (tm p24)) 11, s1 (some p26) (.idxAS 1 (tm p14) (tm p15)) 12, s1 none (.st 1 (tm p26) (tm p21)) 13, s1 (some p27) (.idxAS 1 (tm p16) (tm p17)) 14, s1 none (.st 1 (tm p27) (tm p25)) 15])
  (CC.seq (CC.run [s1 (some p28) (.mv (tm p6)) 0, s1 (some p29) (.bin .add (tm p28) (cn (i6 (nn 1)))) 1, s1 (some p6) (.mv (tm p29)) 2])
  (CC.run [s1 (some p30) (.mv (tm p7)) 0, s1 (some p31) (.bin .sub (tm p30) (cn (i6 (nn 1)))) 1, s1 (some p7) (.mv (tm p31)) 2]))))))))), []⟩
theorem lit64_ok : fnO tys 64 Try.f64 = some lit64 := by kernel_rfl
noncomputable def lit65 : CFn :=
  ⟨65, 133, (CC.seq (CC.run [s1 (some p6) (.mv (cn (CV.bool false))) 0])
  (CC.seq (CC.run [s1 (some p11) (.mv (tm p1)) 0, s1 (some p12) (.bin .add (tm p11) (cn (i6 (nn 1)))) 1, s1 (some p7) (.mv (tm p12)) 2])
  (CC.seq (CC.seq (CC.run [s1 (some p8) (.mv (cn (i6 (nn 0)))) 0])
  (CC.block 0 (CC.loop (CC.seq (CC.seq (CC.run [s1 (some p13) (.mv (tm p8)) 0, s1 (some p14) (.bin .lss (tm p13) (cn (i6 (nn 5)))) 1])
  (CC.cond (tm p14) CC.skip
  (CC.exit 0)))
  (CC.seq (CC.block 1 (CC.seq (CC.block 2 (CC.loop (CC.seq (CC.seq (CC.draw [] [⟨(some p17), (.mv (tm p7)), none, 0, false, true⟩, s1 (some p18) (.mv (tm p2)) 1, s1 (some p19) (.bin .lss (tm p17) (tm p18)) 2, s1 (some p20) (.mv (tm p19)) 3, ⟨(some p21), (.mv (tm p0)), (some (p20, true)), 4, false, true⟩, ⟨(some p22), (.mv (tm p7)), (some (p20, true)), 5, false, true⟩, ⟨(some p23), (.idxAS 1 (tm p21) (tm p22)), (some (p20, true)), 6, false, true⟩, ⟨(some p24), (.ld (tm p23)), (some (p20, true)), 7, false, true⟩, ⟨(some p25), (.mv (tm p0)), (some (p20, true)), 8, false, true⟩, ⟨(some p26), (.mv (tm p7)), (some (p20, true)), 9, true, true⟩, ⟨(some p27), (.bin .sub (tm p26) (cn (i6 (nn 1)))), (some (p20, true)), 10, true, true⟩, ⟨(some p28), (.idxAS 1 (tm p25) (tm p27)), (some (p20, true)), 11, true, true⟩, ⟨(some p29), (.ld (tm p28)), (some (p20, true)), 12, true, true⟩, ⟨(some p30), (.call (cn (CV.fn 66 [] [])) [(tm p24), (tm p29)]), (some (p20, true)), 13, true, true⟩, ⟨(some p31), (.not (tm p30)), (some (p20, true)), 14, true, true⟩, s1 (some p32) (.pick (tm p20) (tm p31) (cn (CV.bool false))) 15])
  (CC.cond (tm p32) CC.skip
  (CC.exit 2)))
  (CC.block 3 (CC.run [s1 (some p33) (.mv (tm p7)) 0, s1 (some p34) (.bin .add (tm p33) (cn (i6 (nn 1)))) 1, s1 (some p7) (.mv (tm p34)) 2])))))
  (CC.seq (CC.seq (CC.run [s1 (some p35) (.mv (tm p7)) 0, s1 (some p36) (.mv (tm p2)) 1, s1 (some p37) (.bin .eql (tm p35) (tm p36)) 2])
  (CC.cond (tm p37) (CC.seq (CC.run [s1 (some p6) (.mv (cn (CV.bool true))) 0])
  CC.ret)
  CC.skip))
  (CC.seq (CC.seq (CC.run [s1 (some p38) (.mv (tm p2)) 0, s1 (some p39) (.mv (tm p1)) 1, s1 (some p40) (.bin .sub (tm p38) (tm p39)) 2, s1 (some p41) (.bin .lss (tm p40) (cn (i6 (nn 50)))) 3])
  (CC.cond (tm p41) (CC.seq (CC.run [s1 (some p6) (.mv (cn (CV.bool false))) 0])
  CC.ret)
  CC.skip))
  (CC.seq (CC.draw [] [⟨(some p42), (.mv (tm p0)), none, 0, false, true⟩, ⟨(some p43), (.mv (tm p7)), none, 1, false, true⟩, ⟨(some p44), (.mv (tm p0)), none, 2, false, false⟩, ⟨(some p45), (.mv (tm p7)), none, 3, false, false⟩, ⟨(some p46), (.bin .sub (tm p45) (cn (i6 (nn 1)))), none, 4, false, false⟩, ⟨(some p47), (.mv (tm p0)), none, 5, false, true⟩, ⟨(some p48), (.mv (tm p7)), none, 6, false, true⟩, ⟨(some p49), (.bin .sub (tm p48) (cn (i6 (nn 1)))), none, 7, false, true⟩, ⟨(some p50), (.idxAS 1 (tm p47) (tm p49)), none, 8, false, true⟩, ⟨(some p51), (.ld (tm p50)), none, 9, false, true⟩, ⟨(some p52), (.mv (tm p0)), none, 10, false, true⟩, s1 (some p53) (.mv (tm p7)) 11, s1 (some p54) (.idxAS 1 (tm p52) (tm p53)) 12, s1 (some p55) (.ld (tm p54)) 13, s1 (some p56) (.idxAS 1 (tm p42) (tm p43)) 14, s1 none (.st 1 (tm p56) (tm p51)) 15, s1 (some p57) (.idxAS 1 (tm p44) (tm p46)) 16, s1 none (.st 1 (tm p57) (tm p55)) 17])
  (CC.seq (CC.seq (CC.run [s1 (some p58) (.mv (tm p7)) 0, s1 (some p59) (.mv (tm p1)) 1, s1 (some p60) (.bin .sub (tm p58) (tm p59)) 2, s1 (some p61) (.bin .geq (tm p60) (cn (i6 (nn 2)))) 3])
  (CC.cond (tm p61) (CC.seq (CC.run [s1 (some p62) (.mv (tm p7)) 0, s1 (some p63) (.bin .sub (tm p62) (cn (i6 (nn 1)))) 1, s1 (some p9) (.mv (tm p63)) 2])
  (CC.block 4 (CC.loop (CC.seq (CC.seq (CC.run [s1 (some p64) (.mv (tm p9)) 0, s1 (some p65) (.bin .geq (tm p64) (cn (i6 (nn 1)))) 1])
  (CC.cond (tm p65) CC.skip
  (CC.exit 4)))
  (CC.seq (CC.block 5 (CC.seq (CC.seq (CC.draw [] [⟨(some p68), (.mv (tm p0)), none, 0, false, true⟩, ⟨(some p69), (.mv (tm p9)), none, 1, false, true⟩, ⟨(some p70), (.idxAS 1 (tm p68) (tm p69)), none, 2, false, true⟩, ⟨(some p71), (.ld (tm p70)), none, 3, false, true⟩, ⟨(some p72), (.mv (tm p0)), none, 4, false, true⟩, s1 (some p73) (.mv (tm p9)) 5, s1 (some p74) (.bin .sub (tm p73) (cn (i6 (nn 1)))) 6, s1 (some p75) (.idxAS 1 (tm p72) (tm p74)) 7, s1 (some p76) (.ld (tm p75)) 8, s1 (some p77) (.call (cn (CV.fn 66 [] [])) [(tm p71), (tm p76)]) 9, s1 (some p78) (.not (tm p77)) 10])
  (CC.cond (tm p78) (CC.exit 4)
  CC.skip))
  (CC.draw [] [⟨(some p79), (.mv (tm p0)), none, 0, false, true⟩, ⟨(some p80), (.mv (tm p9)), none, 1, false, true⟩, ⟨(some p81), (.mv (tm p0)), none, 2, false, false⟩, ⟨(some p82), (.mv (tm p9)), none, 3, false, false⟩, ⟨(some p83), (.bin .sub (tm p82) (cn (i6 (nn 1)))), none, 4, false, false⟩, ⟨(some p84), (.mv (tm p0)), none, 5, false, true⟩, ⟨(some p85), (.mv (tm p9)), none, 6, false, true⟩, ⟨(some p86), (.bin .sub (tm p85) (cn (i6 (nn 1)))), none, 7, false, true⟩, ⟨(some p87), (.idxAS 1 (tm p84) (tm p86)), none, 8, false, true⟩, ⟨(some p88), (.ld (tm p87)), none, 9, false, true⟩, ⟨(some p89), (.mv (tm p0)), none, 10, false, true⟩, s1 (some p90) (.mv (tm p9)) 11, s1 (some p91) (.idxAS 1 (tm p89) (tm p90)) 12, s1 (some p92) (.ld (tm p91)) 13, s1 (some p93) (.idxAS 1 (tm p79) (tm p80)) 14, s1 none (.st 1 (tm p93) (tm p88)) 15, s1 (some p94) (.idxAS 1 (tm p81) (tm p83)) 16, s1 none (.st 1 (tm p94) (tm p92)) 17])))
  (CC.run [s1 (some p66) (.mv (tm p9)) 0, s1 (some p67) (.bin .sub (tm p66) (cn (i6 (nn 1)))) 1, s1 (some p9) (.mv (tm p67)) 2]))))))
  CC.skip))
  (CC.seq (CC.run [s1 (some p95) (.mv (tm p2)) 0, s1 (some p96) (.mv (tm p7)) 1, s1 (some p97) (.bin .sub (tm p95) (tm p96)) 2, s1 (some p98) (.bin .geq (tm p97) (cn (i6 (nn 2)))) 3])
  (CC.cond (tm p98) (CC.seq (CC.run [s1 (some p99) (.mv (tm p7)) 0, s1 (some p100) (.bin .add (tm p99) (cn (i6 (nn 1)))) 1, s1 (some p10) (.mv (tm p100)) 2])
  (CC.block 6 (CC.loop (CC.seq (CC.seq (CC.run [s1 (some p101) (.mv (tm p10)) 0, s1 (some p102) (.mv (tm p2)) 1, s1 (some p103) (.bin .lss (tm p101) (tm p102)) 2])
  (CC.cond (tm p103) CC.skip
  (CC.exit 6)))
  (CC.seq (CC.block 7 (CC.seq (CC.seq (CC.draw [] [⟨(some p106), (.mv (tm p0)), none, 0, false, true⟩, ⟨(some p107), (.mv (tm p10)), none, 1, false, true⟩, ⟨(some p108), (.idxAS 1 (tm p106) (tm p107)), none, 2, false, true⟩, ⟨(some p109), (.ld (tm p108)), none, 3, false, true⟩, ⟨(some p110), (.mv (tm p0)), none, 4, false, true⟩, s1 (some p111) (.mv (tm p10)) 5, s1 (some p112) (.bin .sub (tm p111) (cn (i6 (nn 1)))) 6, s1 (some p113) (.idxAS 1 (tm p110) (tm p112)) 7, s1 (some p114) (.ld (tm p113)) 8, s1 (some p115) (.call (cn (CV.fn 66 [] [])) [(tm p109), (tm p114)]) 9, s1 (some p116) (.not (tm p115)) 10])
  (CC.cond (tm p116) (CC.exit 6)
  CC.skip))
  (CC.draw [] [⟨(some p117), (.mv (tm p0)), none, 0, false, true⟩, ⟨(some p118), (.mv (tm p10)), none, 1, false, true⟩, ⟨(some p119), (.mv (tm p0)), none, 2, false, false⟩, ⟨(some p120), (.mv (tm p10)), none, 3, false, false⟩, ⟨(some p121), (.bin .sub (tm p120) (cn (i6 (nn 1)))), none, 4, false, false⟩, ⟨(some p122), (.mv (tm p0)), none, 5, false, true⟩, ⟨(some p123), (.mv (tm p10)), none, 6, false, true⟩, ⟨(some p124), (.bin .sub (tm p123) (cn (i6 (nn 1)))), none, 7, false, true⟩, ⟨(some p125), (.idxAS 1 (tm p122) (tm p124)), none, 8, false, true⟩, ⟨(some p126), (.ld (tm p125)), none, 9, false, true⟩, ⟨(some p127), (.mv (tm p0)), none, 10, false, true⟩, s1 (some p128) (.mv (tm p10)) 11, s1 (some p129) (.idxAS 1 (tm p127) (tm p128)) 12, s1 (some p130) (.ld (tm p129)) 13, s1 (some p131) (.idxAS 1 (tm p117) (tm p118)) 14, s1 none (.st 1 (tm p131) (tm p126)) 15, s1 (some p132) (.idxAS 1 (tm p119) (tm p121)) 16, s1 none (.st 1 (tm p132) (tm p130)) 17])))
  (CC.run [s1 (some p104) (.mv (tm p10)) 0, s1 (some p105) (.bin .add (tm p104) (cn (i6 (nn 1)))) 1, s1 (some p10) (.mv (tm p105)) 2]))))))
  CC.skip))))))))
  (CC.run [s1 (some p15) (.mv (tm p8)) 0, s1 (some p16) (.bin .add (tm p15) (cn (i6 (nn 1)))) 1, s1 (some p8) (.mv (tm p16)) 2]))))))
  (CC.seq (CC.run [s1 (some p6) (.mv (cn (CV.bool false))) 0])
  CC.ret)))), [CRes.tmp p6]⟩
theorem lit65_ok : fnO tys 65 Try.f65 = some lit65 := by kernel_rfl
noncomputable def lit66 : CFn :=
  ⟨66, 17, (CC.seq (CC.run [s1 (some p4) (.mv (cn (CV.bool false))) 0])
  (CC.seq (CC.run [s1 (some p5) (.mv (tm p0)) 0, s1 (some p6) (.call (cn (CV.fn 76 [] [])) [(tm p5)]) 1, s1 (some p7) (.mv (tm p6)) 2, ⟨(some p8), (.mv (tm p1)), (some (p7, true)), 3, true, true⟩, ⟨(some p9), (.call (cn (CV.fn 76 [] [])) [(tm p8)]), (some (p7, true)), 4, true, true⟩, ⟨(some p10), (.not (tm p9)), (some (p7, true)), 5, true, true⟩, s1 (some p11) (.pick (tm p7) (tm p10) (cn (CV.bool false))) 6, s1 (some p12) (.mv (tm p11)) 7, ⟨(some p13), (.mv (tm p0)), (some (p12, false)), 8, true, true⟩, ⟨(some p14), (.mv (tm p1)), (some (p12, false)), 9, true, true⟩, ⟨(some p15), (.bin .lss (tm p13) (tm p14)), (some (p12, false)), 10, true, true⟩, s1 (some p16) (.pick (tm p12) (cn (CV.bool true)) (tm p15)) 11, s1 (some p4) (.mv (tm p16)) 12])
  CC.ret)), [CRes.tmp p4]⟩
theorem lit66_ok : fnO tys 66 Try.f66 = some lit66 := by kernel_rfl
noncomputable def lit67 : CFn :=
  ⟨67, 84, (CC.seq (CC.run [s1 (some p8) (.mv (cn (i6 (nn 0)))) 0])
  (CC.seq (CC.draw [] [⟨(some p11), (.mv (tm p0)), none, 0, false, true⟩, ⟨(some p12), (.mv (tm p1)), none, 1, false, true⟩, ⟨(some p13), (.mv (tm p0)), none, 2, false, false⟩, ⟨(some p14), (.mv (tm p3)), none, 3, false, false⟩, ⟨(some p15), (.mv (tm p0)), none, 4, false, true⟩, ⟨(some p16), (.mv (tm p3)), none, 5, false, true⟩, ⟨(some p17), (.idxAS 1 (tm p15) (tm p16)), none, 6, false, true⟩, ⟨(some p18), (.ld (tm p17)), none, 7, false, true⟩, ⟨(some p19), (.mv (tm p0)), none, 8, false, true⟩, s1 (some p20) (.mv (tm p1)) 9, s1 (some p21) (.idxAS 1 (tm p19) (tm p20)) 10, s1 (some p22) (.ld (tm p21)) 11, s1 (some p23) (.idxAS 1 (tm p11) (tm p12)) 12, s1 none (.st 1 (tm p23) (tm p18)) 13, s1 (some p24) (.idxAS 1 (tm p13) (tm p14)) 14, s1 none (.st 1 (tm p24) (tm p22)) 15])
  (CC.seq (CC.run [s1 (some p25) (.mv (tm p1)) 0, s1 (some p26) (.bin .add (tm p25) (cn (i6 (nn 1)))) 1, s1 (some p27) (.mv (tm p2)) 2, s1 (some p28) (.bin .sub (tm p27) (cn (i6 (nn 1)))) 3, s1 (some p9) (.mv (tm p26)) 4, s1 (some p10) (.mv (tm p28)) 5])
  (CC.seq (CC.block 0 (CC.loop (CC.block 1 (CC.seq (CC.block 2 (CC.loop (CC.seq (CC.seq (CC.draw [] [⟨(some p29), (.mv (tm p9)), none, 0, false, true⟩, s1 (some p30) (.mv (tm p10)) 1, s1 (some p31) (.bin .leq (tm p29) (tm p30)) 2, s1 (some p32) (.mv (tm p31)) 3, ⟨(some p33), (.mv (tm p0)), (some (p32, true)), 4, false, true⟩, ⟨(some p34), (.mv (tm p1)), (some (p32, true)), 5, false, true⟩, ⟨(some p35), (.idxAS 1 (tm p33) (tm p34)), (some (p32, true)), 6, false, true⟩, ⟨(some p36), (.ld (tm p35)), (some (p32, true)), 7, false, true⟩, ⟨(some p37), (.mv (tm p0)), (some (p32, true)), 8, false, true⟩, ⟨(some p38), (.mv (tm p9)), (some (p32, true)), 9, true, true⟩, ⟨(some p39), (.idxAS 1 (tm p37) (tm p38)), (some (p32, true)), 10, true, true⟩, ⟨(some p40), (.ld (tm p39)), (some (p32, true)), 11, true, true⟩, ⟨(some p41), (.call (cn (CV.fn 66 [] [])) [(tm p36), (tm p40)]), (some (p32, true)), 12, true, true⟩, ⟨(some p42), (.not (tm p41)), (some (p32, true)), 13, true, true⟩, s1 (some p43) (.pick (tm p32) (tm p42) (cn (CV.bool false))) 14])
  (CC.cond (tm p43) CC.skip
  (CC.exit 2)))
  (CC.block 3 (CC.run [s1 (some p44) (.mv (tm p9)) 0, s1 (some p45) (.bin .add (tm p44) (cn (i6 (nn 1)))) 1, s1 (some p9) (.mv (tm p45)) 2])))))
  (CC.seq (CC.block 4 (CC.loop (CC.seq (CC.seq (CC.draw [] [⟨(some p46), (.mv (tm p9)), none, 0, false, true⟩, s1 (some p47) (.mv (tm p10)) 1, s1 (some p48) (.bin .leq (tm p46) (tm p47)) 2, s1 (some p49) (.mv (tm p48)) 3, ⟨(some p50), (.mv (tm p0)), (some (p49, true)), 4, false, true⟩, ⟨(some p51), (.mv (tm p1)), (some (p49, true)), 5, false, true⟩, ⟨(some p52), (.idxAS 1 (tm p50) (tm p51)), (some (p49, true)), 6, false, true⟩, ⟨(some p53), (.ld (tm p52)), (some (p49, true)), 7, false, true⟩, ⟨(some p54), (.mv (tm p0)), (some (p49, true)), 8, false, true⟩, ⟨(some p55), (.mv (tm p10)), (some (p49, true)), 9, true, true⟩, ⟨(some p56), (.idxAS 1 (tm p54) (tm p55)), (some (p49, true)), 10, true, true⟩, ⟨(some p57), (.ld (tm p56)), (some (p49, true)), 11, true, true⟩, ⟨(some p58), (.call (cn (CV.fn 66 [] [])) [(tm p53), (tm p57)]), (some (p49, true)), 12, true, true⟩, s1 (some p59) (.pick (tm p49) (tm p58) (cn (CV.bool false))) 13])
  (CC.cond (tm p59) CC.skip
  (CC.exit 4)))
  (CC.block 5 (CC.run [s1 (some p60) (.mv (tm p10)) 0, s1 (some p61) (.bin .sub (tm p60) (cn (i6 (nn 1)))) 1, s1 (some p10) (.mv (tm p61)) 2])))))
  (CC.seq (CC.seq (CC.run [s1 (some p62) (.mv (tm p9)) 0, s1 (some p63) (.mv (tm p10)) 1, s1 (some p64) (.bin .gtr (tm p62) (tm p63)) 2])
  (CC.cond (tm p64) (CC.exit 0)
  CC.skip))
  (CC.seq (CC.draw [] [⟨(some p65), (.mv (tm p0)), none, 0, false, true⟩, ⟨(some p66), (.mv (tm p9)), none, 1, false, true⟩, ⟨(some p67), (.mv (tm p0)), none, 2, false, false⟩, ⟨(some p68), (.mv (tm p10)), none, 3, false, false⟩, ⟨(some p69), (.mv (tm p0)), none, 4, false, true⟩, ⟨(some p70), (.mv (tm p10)), none, 5, false, true⟩, ⟨(some p71), (.idxAS 1 (tm p69) (tm p70)), none, 6, false, true⟩, ⟨(some p72), (.ld (tm p71)), none, 7, false, true⟩, ⟨(some p73), (.mv (tm p0)), none, 8, false, true⟩, s1 (some p74) (.mv (tm p9)) 9, s1 (some p75) (.idxAS 1 (tm p73) (tm p74)) 10, s1 (some p76) (.ld (tm p75)) 11, s1 (some p77) (.idxAS 1 (tm p65) (tm p66)) 12, s1 none (.st 1 (tm p77) (tm p72)) 13, s1 (some p78) (.idxAS 1 (tm p67) (tm p68)) 14, s1 none (.st 1 (tm p78) (tm p76)) 15])
  (CC.seq (CC.run [s1 (some p79) (.mv (tm p9)) 0, s1 (some p80) (.bin .add (tm p79) (cn (i6 (nn 1)))) 1, s1 (some p9) (.mv (tm p80)) 2])
  (CC.run [s1 (some p81) (.mv (tm p10)) 0, s1 (some p82) (.bin .sub (tm p81) (cn (i6 (nn 1)))) 1, s1 (some p10) (.mv (tm p82)) 2])))))))))
  (CC.seq (CC.run [s1 (some p83) (.mv (tm p9)) 0, s1 (some p8) (.mv (tm p83)) 1])
  CC.ret))))), [CRes.tmp p8]⟩
theorem lit67_ok : fnO tys 67 Try.f67 = some lit67 := by kernel_rfl
noncomputable def lit68 : CFn :=
  ⟨68, 168, (CC.seq (CC.run [s1 (some p8) (.mv (cn (i6 (nn 0)))) 0, s1 (some p9) (.mv (cn (CV.bool false))) 1])
  (CC.seq (CC.draw [] [⟨(some p12), (.mv (tm p0)), none, 0, false, true⟩, ⟨(some p13), (.mv (tm p1)), none, 1, false, true⟩, ⟨(some p14), (.mv (tm p0)), none, 2, false, false⟩, ⟨(some p15), (.mv (tm p3)), none, 3, false, false⟩, ⟨(some p16), (.mv (tm p0)), none, 4, false, true⟩, ⟨(some p17), (.mv (tm p3)), none, 5, false, true⟩, ⟨(some p18), (.idxAS 1 (tm p16) (tm p17)), none, 6, false, true⟩, ⟨(some p19), (.ld (tm p18)), none, 7, false, true⟩, ⟨(some p20), (.mv (tm p0)), none, 8, false, true⟩, s1 (some p21) (.mv (tm p1)) 9, s1 (some p22) (.idxAS 1 (tm p20) (tm p21)) 10, s1 (some p23) (.ld (tm p22)) 11, s1 (some p24) (.idxAS 1 (tm p12) (tm p13)) 12, s1 none (.st 1 (tm p24) (tm p19)) 13, s1 (some p25) (.idxAS 1 (tm p14) (tm p15)) 14, s1 none (.st 1 (tm p25) (tm p23)) 15])
  (CC.seq (CC.run [s1 (some p26) (.mv (tm p1)) 0, s1 (some p27) (.bin .add (tm p26) (cn (i6 (nn 1)))) 1, s1 (some p28) (.mv (tm p2)) 2, s1 (some p29) (.bin .sub (tm p28) (cn (i6 (nn 1)))) 3, s1 (some p10) (.mv (tm p27)) 4, s1 (some p11) (.mv (tm p29)) 5])
  (CC.seq (CC.block 0 (CC.loop (CC.seq (CC.seq (CC.draw [] [⟨(some p30), (.mv (tm p10)), none, 0, false, true⟩, s1 (some p31) (.mv (tm p11)) 1, s1 (some p32) (.bin .leq (tm p30) (tm p31)) 2, s1 (some p33) (.mv (tm p32)) 3, ⟨(some p34), (.mv (tm p0)), (some (p33, true)), 4, false, true⟩, ⟨(some p35), (.mv (tm p10)), (some (p33, true)), 5, false, true⟩, ⟨(some p36), (.idxAS 1 (tm p34) (tm p35)), (some (p33, true)), 6, false, true⟩, ⟨(some p37), (.ld (tm p36)), (some (p33, true)), 7, false, true⟩, ⟨(some p38), (.mv (tm p0)), (some (p33, true)), 8, false, true⟩, ⟨(some p39), (.mv (tm p1)), (some (p33, true)), 9, true, true⟩, ⟨(some p40), (.idxAS 1 (tm p38) (tm p39)), (some (p33, true)), 10, true, true⟩, ⟨(some p41), (.ld (tm p40)), (some (p33, true)), 11, true, true⟩, ⟨(some p42), (.call (cn (CV.fn 66 [] [])) [(tm p37), (tm p41)]), (some (p33, true)), 12, true, true⟩, s1 (some p43) (.pick (tm p33) (tm p42) (cn (CV.bool false))) 13])
  (CC.cond (tm p43) CC.skip
  (CC.exit 0)))
  (CC.block 1 (CC.run [s1 (some p44) (.mv (tm p10)) 0, s1 (some p45) (.bin .add (tm p44) (cn (i6 (nn 1)))) 1, s1 (some p10) (.mv (tm p45)) 2])))))
  (CC.seq (CC.block 2 (CC.loop (CC.seq (CC.seq (CC.draw [] [⟨(some p46), (.mv (tm p10)), none, 0, false, true⟩, s1 (some p47) (.mv (tm p11)) 1, s1 (some p48) (.bin .leq (tm p46) (tm p47)) 2, s1 (some p49) (.mv (tm p48)) 3, ⟨(some p50), (.mv (tm p0)), (some (p49, true)), 4, false, true⟩, ⟨(some p51), (.mv (tm p11)), (some (p49, true)), 5, false, true⟩, ⟨(some p52), (.idxAS 1 (tm p50) (tm p51)), (some (p49, true)), 6, false, true⟩, ⟨(some p53), (.ld (tm p52)), (some (p49, true)), 7, false, true⟩, ⟨(some p54), (.mv (tm p0)), (some (p49, true)), 8, false, true⟩, ⟨(some p55), (.mv (tm p1)), (some (p49, true)), 9, true, true⟩, ⟨(some p56), (.idxAS 1 (tm p54) (tm p55)), (some (p49, true)), 10, true, true⟩, ⟨(some p57), (.ld (tm p56)), (some (p49, true)), 11, true, true⟩, ⟨(some p58), (.call (cn (CV.fn 66 [] [])) [(tm p53), (tm p57)]), (some (p49, true)), 12, true, true⟩, ⟨(some p59), (.not (tm p58)), (some (p49, true)), 13, true, true⟩, s1 (some p60) (.pick (tm p49) (tm p59) (cn (CV.bool false))) 14])
  (CC.cond (tm p60) CC.skip
  (CC.exit 2)))
  (CC.block 3 (CC.run [s1 (some p61) (.mv (tm p11)) 0, s1 (some p62) (.bin .sub (tm p61) (cn (i6 (nn 1)))) 1, s1 (some p11) (.mv (tm p62)) 2])))))
  (CC.seq (CC.seq (CC.run [s1 (some p63) (.mv (tm p10)) 0, s1 (some p64) (.mv (tm p11)) 1, s1 (some p65) (.bin .gtr (tm p63) (tm p64)) 2])
  (CC.cond (tm p65) (CC.seq (CC.draw [] [⟨(some p66), (.mv (tm p0)), none, 0, false, true⟩, ⟨(some p67), (.mv (tm p11)), none, 1, false, true⟩, ⟨(some p68), (.mv (tm p0)), none, 2, false, false⟩, ⟨(some p69), (.mv (tm p1)), none, 3, false, false⟩, ⟨(some p70), (.mv (tm p0)), none, 4, false, true⟩, ⟨(some p71), (.mv (tm p1)), none, 5, false, true⟩, ⟨(some p72), (.idxAS 1 (tm p70) (tm p71)), none, 6, false, true⟩, ⟨(some p73), (.ld (tm p72)), none, 7, false, true⟩, ⟨(some p74), (.mv (tm p0)), none, 8, false, true⟩, s1 (some p75) (.mv (tm p11)) 9, s1 (some p76) (.idxAS 1 (tm p74) (tm p75)) 10, s1 (some p77) (.ld (tm p76)) 11, s1 (some p78) (.idxAS 1 (tm p66) (tm p67)) 12, s1 none (.st 1 (tm p78) (tm p73)) 13, s1 (some p79) (.idxAS 1 (tm p68) (tm p69)) 14, s1 none (.st 1 (tm p79) (tm p77)) 15])
  (CC.seq (CC.run [s1 (some p80) (.mv (tm p11)) 0, s1 (some p8) (.mv (tm p80)) 1, s1 (some p9) (.mv (cn (CV.bool true))) 2])
  CC.ret))
  CC.skip))
  (CC.seq (CC.draw [] [⟨(some p81), (.mv (tm p0)), none, 0, false, true⟩, ⟨(some p82), (.mv (tm p10)), none, 1, false, true⟩, ⟨(some p83), (.mv (tm p0)), none, 2, false, false⟩, ⟨(some p84), (.mv (tm p11)), none, 3, false, false⟩, ⟨(some p85), (.mv (tm p0)), none, 4, false, true⟩, ⟨(some p86), (.mv (tm p11)), none, 5, false, true⟩, ⟨(some p87), (.idxAS 1 (tm p85) (tm p86)), none, 6, false, true⟩, ⟨(some p88), (.ld (tm p87)), none, 7, false, true⟩, ⟨(some p89), (.mv (tm p0)), none, 8, false, true⟩, s1 (some p90) (.mv (tm p10)) 9, s1 (some p91) (.idxAS 1 (tm p89) (tm p90)) 10, s1 (some p92) (.ld (tm p91)) 11, s1 (some p93) (.idxAS 1 (tm p81) (tm p82)) 12, s1 none (.st 1 (tm p93) (tm p88)) 13, s1 (some p94) (.idxAS 1 (tm p83) (tm p84)) 14, s1 none (.st 1 (tm p94) (tm p92)) 15])
  (CC.seq (CC.run [s1 (some p95) (.mv (tm p10)) 0, s1 (some p96) (.bin .add (tm p95) (cn (i6 (nn 1)))) 1, s1 (some p10) (.mv (tm p96)) 2])
  (CC.seq (CC.run [s1 (some p97) (.mv (tm p11)) 0, s1 (some p98) (.bin .sub (tm p97) (cn (i6 (nn 1)))) 1, s1 (some p11) (.mv (tm p98)) 2])
  (CC.seq (CC.block 4 (CC.loop (CC.block 5 (CC.seq (CC.block 6 (CC.loop (CC.seq (CC.seq (CC.draw [] [⟨(some p99), (.mv (tm p10)), none, 0, false, true⟩, s1 (some p100) (.mv (tm p11)) 1, s1 (some p101) (.bin .leq (tm p99) (tm p100)) 2, s1 (some p102) (.mv (tm p101)) 3, ⟨(some p103), (.mv (tm p0)), (some (p102, true)), 4, false, true⟩, ⟨(some p104), (.mv (tm p10)), (some (p102, true)), 5, false, true⟩, ⟨(some p105), (.idxAS 1 (tm p103) (tm p104)), (some (p102, true)), 6, false, true⟩, ⟨(some p106), (.ld (tm p105)), (some (p102, true)), 7, false, true⟩, ⟨(some p107), (.mv (tm p0)), (some (p102, true)), 8, false, true⟩, ⟨(some p108), (.mv (tm p1)), (some (p102, true)), 9, true, true⟩, ⟨(some p109), (.idxAS 1 (tm p107) (tm p108)), (some (p102, true)), 10, true, true⟩, ⟨(some p110), (.ld (tm p109)), (some (p102, true)), 11, true, true⟩, ⟨(some p111), (.call (cn (CV.fn 66 [] [])) [(tm p106), (tm p110)]), (some (p102, true)), 12, true, true⟩, s1 (some p112) (.pick (tm p102) (tm p111) (cn (CV.bool false))) 13])
  (CC.cond (tm p112) CC.skip
  (CC.exit 6)))
  (CC.block 7 (CC.run [s1 (some p113) (.mv (tm p10)) 0, s1 (some p114) (.bin .add (tm p113) (cn (i6 (nn 1)))) 1, s1 (some p10) (.mv (tm p114)) 2])))))
  (CC.seq (CC.block 8 (CC.loop (CC.seq (CC.seq (CC.draw [] [⟨(some p115), (.mv (tm p10)), none, 0, false, true⟩, s1 (some p116) (.mv (tm p11)) 1, s1 (some p117) (.bin .leq (tm p115) (tm p116)) 2, s1 (some p118) (.mv (tm p117)) 3, ⟨(some p119), (.mv (tm p0)), (some (p118, true)), 4, false, true⟩, ⟨(some p120), (.mv (tm p11)), (some (p118, true)), 5, false, true⟩, ⟨(some p121), (.idxAS 1 (tm p119) (tm p120)), (some (p118, true)), 6, false, true⟩, ⟨(some p122), (.ld (tm p121)), (some (p118, true)), 7, false, true⟩, ⟨(some p123), (.mv (tm p0)), (some (p118, true)), 8, false, true⟩, ⟨(some p124), (.mv (tm p1)), (some (p118, true)), 9, true, true⟩, ⟨(some p125), (.idxAS 1 (tm p123) (tm p124)), (some (p118, true)), 10, true, true⟩, ⟨(some p126), (.ld (tm p125)), (some (p118, true)), 11, true, true⟩, ⟨(some p127), (.call (cn (CV.fn 66 [] [])) [(tm p122), (tm p126)]), (some (p118, true)), 12, true, true⟩, ⟨(some p128), (.not (tm p127)), (some (p118, true)), 13, true, true⟩, s1 (some p129) (.pick (tm p118) (tm p128) (cn (CV.bool false))) 14])
  (CC.cond (tm p129) CC.skip
  (CC.exit 8)))
  (CC.block 9 (CC.run [s1 (some p130) (.mv (tm p11)) 0, s1 (some p131) (.bin .sub (tm p130) (cn (i6 (nn 1)))) 1, s1 (some p11) (.mv (tm p131)) 2])))))
  (CC.seq (CC.seq (CC.run [s1 (some p132) (.mv (tm p10)) 0, s1 (some p133) (.mv (tm p11)) 1, s1 (some p134) (.bin .gtr (tm p132) (tm p133)) 2])
  (CC.cond (tm p134) (CC.exit 4)
  CC.skip))
  (CC.seq (CC.draw [] [⟨(some p135), (.mv (tm p0)), none, 0, false, true⟩, ⟨(some p136), (.mv (tm p10)), none, 1, false, true⟩, ⟨(some p137), (.mv (tm p0)), none, 2, false, false⟩, ⟨(some p138), (.mv (tm p11)), none, 3, false, false⟩, ⟨(some p139), (.mv (tm p0)), none, 4, false, true⟩, ⟨(some p140), (.mv (tm p11)), none, 5, false, true⟩, ⟨(some p141), (.idxAS 1 (tm p139) (tm p140)), none, 6, false, true⟩, ⟨(some p142), (.ld (tm p141)), none, 7, false, true⟩, ⟨(some p143), (.mv (tm p0)), none, 8, false, true⟩, s1 (some p144) (.mv (tm p10)) 9, s1 (some p145) (.idxAS 1 (tm p143) (tm p144)) 10, s1 (some p146) (.ld (tm p145)) 11, s1 (some p147) (.idxAS 1 (tm p135) (tm p136)) 12, s1 none (.st 1 (tm p147) (tm p142)) 13, s1 (some p148) (.idxAS 1 (tm p137) (tm p138)) 14, s1 none (.st 1 (tm p148) (tm p146)) 15])
  (CC.seq (CC.run [s1 (some p149) (.mv (tm p10)) 0, s1 (some p150) (.bin .add (tm p149) (cn (i6 (nn 1)))) 1, s1 (some p10) (.mv (tm p150)) 2])
  (CC.run [s1 (some p151) (.mv (tm p11)) 0, s1 (some p152) (.bin .sub (tm p151) (cn (i6 (nn 1)))) 1, s1 (some p11) (.mv (tm p152)) 2])))))))))
  (CC.seq (CC.draw [] [⟨(some p153), (.mv (tm p0)), none, 0, false, true⟩, ⟨(some p154), (.mv (tm p11)), none, 1, false, true⟩, ⟨(some p155), (.mv (tm p0)), none, 2, false, false⟩, ⟨(some p156), (.mv (tm p1)), none, 3, false, false⟩, ⟨(some p157), (.mv (tm p0)), none, 4, false, true⟩, ⟨(some p158), (.mv (tm p1)), none, 5, false, true⟩, ⟨(some p159), (.idxAS 1 (tm p157) (tm p158)), none, 6, false, true⟩, ⟨(some p160), (.ld (tm p159)), none, 7, false, true⟩, ⟨(some p161), (.mv (tm p0)), none, 8, false, true⟩, s1 (some p162) (.mv (tm p11)) 9, s1 (some p163) (.idxAS 1 (tm p161) (tm p162)) 10, s1 (some p164) (.ld (tm p163)) 11, s1 (some p165) (.idxAS 1 (tm p153) (tm p154)) 12, s1 none (.st 1 (tm p165) (tm p160)) 13, s1 (some p166) (.idxAS 1 (tm p155) (tm p156)) 14, s1 none (.st 1 (tm p166) (tm p164)) 15])
  (CC.seq (CC.run [s1 (some p167) (.mv (tm p11)) 0, s1 (some p8) (.mv (tm p167)) 1, s1 (some p9) (.mv (cn (CV.bool false))) 2])
  CC.ret)))))))))))), [CRes.tmp p8, CRes.tmp p9]⟩
theorem lit68_ok : fnO tys 68 Try.f68 = some lit68 := by kernel_rfl
noncomputable def lit69 : CFn :=
  ⟨69, 19, (CC.seq (CC.run [s1 (some p2) (.mv (cn (i6 (nn 0)))) 0])
  (CC.seq (CC.seq (CC.run [s1 (some p3) (.mv (tm p0)) 0, s1 (some p4) (.bin .geq (tm p3) (cn (CV.int .u32 (nn 65536)))) 1])
  (CC.cond (tm p4) (CC.seq (CC.run [s1 (some p5) (.mv (tm p0)) 0, s1 (some p6) (.bin .shr (tm p5) (cn (CV.int .u64 (nn 16)))) 1, s1 (some p0) (.mv (tm p6)) 2])
  (CC.run [s1 (some p2) (.mv (cn (i6 (nn 16)))) 0]))
  CC.skip))
  (CC.seq (CC.seq (CC.run [s1 (some p7) (.mv (tm p0)) 0, s1 (some p8) (.bin .geq (tm p7) (cn (CV.int .u32 (nn 256)))) 1])
  (CC.cond (tm p8) (CC.seq (CC.run [s1 (some p9) (.mv (tm p0)) 0, s1 (some p10) (.bin .shr (tm p9) (cn (CV.int .u64 (nn 8)))) 1, s1 (some p0) (.mv (tm p10)) 2])
  (CC.run [s1 (some p11) (.mv (tm p2)) 0, s1 (some p12) (.bin .add (tm p11) (cn (i6 (nn 8)))) 1, s1 (some p2) (.mv (tm p12)) 2]))
  CC.skip))
  (CC.seq (CC.run [s1 (some p13) (.mv (tm p2)) 0, s1 (some p14) (.mv (tm p0)) 1, s1 (some p15) (.conv .u8 (tm p14)) 2, s1 (some p16) (.idxT (cn (CV.str (bs [0, 1, 2, 2, 3, 3, 3, 3, 4, 4, 4, 4, 4, 4, 4, 4, 5, 5, 5, 5, 5, 5, 5, 5, 5, 5, 5, 5, 5, 5, 5, 5, 6, 6, 6, 6, 6, 6, 6, 6, 6, 6, 6, 6, 6, 6, 6, 6, 6, 6, 6, 6, 6, 6, 6, 6, 6, 6, 6, 6, 6, 6, 6, 6, 7, 7, 7, 7, 7, 7, 7, 7, 7, 7, 7, 7, 7, 7, 7, 7, 7, 7, 7, 7, 7, 7, 7, 7, 7, 7, 7, 7, 7, 7, 7, 7, 7, 7, 7, 7, 7, 7, 7, 7, 7, 7, 7, 7, 7, 7, 7, 7, 7, 7, 7, 7, 7, 7, 7, 7, 7, 7, 7, 7, 7, 7, 7, 7, 8, 8, 8, 8, 8, 8, 8, 8, 8, 8, 8, 8, 8, 8, 8, 8, 8, 8, 8, 8, 8, 8, 8, 8, 8, 8, 8, 8, 8, 8, 8, 8, 8, 8, 8, 8, 8, 8, 8, 8, 8, 8, 8, 8, 8, 8, 8, 8, 8, 8, 8, 8, 8, 8, 8, 8, 8, 8, 8, 8, 8, 8, 8, 8, 8, 8, 8, 8, 8, 8, 8, 8, 8, 8, 8, 8, 8, 8, 8, 8, 8, 8, 8, 8, 8, 8, 8, 8, 8, 8, 8, 8, 8, 8, 8, 8, 8, 8, 8, 8, 8, 8, 8, 8, 8, 8, 8, 8, 8, 8, 8, 8, 8, 8, 8, 8, 8, 8, 8, 8, 8, 8, 8, 8, 8, 8, 8, 8]))) (tm p15)) 3, s1 (some p17) (.conv .i64 (tm p16)) 4, s1 (some p18) (.bin .add (tm p13) (tm p17)) 5, s1 (some p2) (.mv (tm p18)) 6])
  CC.ret)))), [CRes.tmp p2]⟩
theorem lit69_ok : fnO tys 69 Try.f69 = some lit69 := by kernel_rfl
noncomputable def lit70 : CFn :=
  ⟨70, 25, (CC.seq (CC.run [s1 (some p2) (.mv (cn (i6 (nn 0)))) 0])
  (CC.seq (CC.seq (CC.run [s1 (some p3) (.mv (tm p0)) 0, s1 (some p4) (.bin .geq (tm p3) (cn (CV.int .u64 (nn 4294967296)))) 1])
  (CC.cond (tm p4) (CC.seq (CC.run [s1 (some p5) (.mv (tm p0)) 0, s1 (some p6) (.bin .shr (tm p5) (cn (CV.int .u64 (nn 32)))) 1, s1 (some p0) (.mv (tm p6)) 2])
  (CC.run [s1 (some p2) (.mv (cn (i6 (nn 32)))) 0]))
  CC.skip))
  (CC.seq (CC.seq (CC.run [s1 (some p7) (.mv (tm p0)) 0, s1 (some p8) (.bin .geq (tm p7) (cn (CV.int .u64 (nn 65536)))) 1])
  (CC.cond (tm p8) (CC.seq (CC.run [s1 (some p9) (.mv (tm p0)) 0, s1 (some p10) (.bin .shr (tm p9) (cn (CV.int .u64 (nn 16)))) 1, s1 (some p0) (.mv (tm p10)) 2])
  (CC.run [s1 (some p11) (.mv (tm p2)) 0, s1 (some p12) (.bin .add (tm p11) (cn (i6 (nn 16)))) 1, s1 (some p2) (.mv (tm p12)) 2]))
  CC.skip))
  (CC.seq (CC.seq (CC.run [s1 (some p13) (.mv (tm p0)) 0, s1 (some p14) (.bin .geq (tm p13) (cn (CV.int .u64 (nn 256)))) 1])
  (CC.cond (tm p14) (CC.seq (CC.run [s1 (some p15) (.mv (tm p0)) 0, s1 (some p16) (.bin .shr (tm p15) (cn (CV.int .u64 (nn 8)))) 1, s1 (some p0) (.mv (tm p16)) 2])
  (CC.run [s1 (some p17) (.mv (tm p2)) 0, s1 (some p18) (.bin .add (tm p17) (cn (i6 (nn 8)))) 1, s1 (some p2) (.mv (tm p18)) 2]))
  CC.skip))
  (CC.seq (CC.run [s1 (some p19) (.mv (tm p2)) 0, s1 (some p20) (.mv (tm p0)) 1, s1 (some p21) (.conv .u8 (tm p20)) 2, s1 (some p22) (.idxT (cn (CV.str (bs [0, 1, 2, 2, 3, 3, 3, 3, 4, 4, 4, 4, 4, 4, 4, 4, 5, 5, 5, 5, 5, 5, 5, 5, 5, 5, 5, 5, 5, 5, 5, 5, 6, 6, 6, 6, 6, 6, 6, 6, 6, 6, 6, 6, 6, 6, 6, 6, 6, 6, 6, 6, 6, 6, 6, 6, 6, 6, 6, 6, 6, 6, 6, 6, 7, 7, 7, 7, 7, 7, 7, 7, 7, 7, 7, 7, 7, 7, 7, 7, 7, 7, 7, 7, 7, 7, 7, 7, 7, 7, 7, 7, 7, 7, 7, 7, 7, 7, 7, 7, 7, 7, 7, 7, 7, 7, 7, 7, 7, 7, 7, 7, 7, 7, 7, 7, 7, 7, 7, 7, 7, 7, 7, 7, 7, 7, 7, 7, 8, 8, 8, 8, 8, 8, 8, 8, 8, 8, 8, 8, 8, 8, 8, 8, 8, 8, 8, 8, 8, 8, 8, 8, 8, 8, 8, 8, 8, 8, 8, 8, 8, 8, 8, 8, 8, 8, 8, 8, 8, 8, 8, 8, 8, 8, 8, 8, 8, 8, 8, 8, 8, 8, 8, 8, 8, 8, 8, 8, 8, 8, 8, 8, 8, 8, 8, 8, 8, 8, 8, 8, 8, 8, 8, 8, 8, 8, 8, 8, 8, 8, 8, 8, 8, 8, 8, 8, 8, 8, 8, 8, 8, 8, 8, 8, 8, 8, 8, 8, 8, 8, 8, 8, 8, 8, 8, 8, 8, 8, 8, 8, 8, 8, 8, 8, 8, 8, 8, 8, 8, 8, 8, 8, 8, 8, 8, 8]))) (tm p21)) 3, s1 (some p23) (.conv .i64 (tm p22)) 4, s1 (some p24) (.bin .add (tm p19) (tm p23)) 5, s1 (some p2) (.mv (tm p24)) 6])
  CC.ret))))), [CRes.tmp p2]⟩
theorem lit70_ok : fnO tys 70 Try.f70 = some lit70 := by kernel_rfl
noncomputable def lit71 : CFn :=
  ⟨71, 76, (CC.seq (CC.run [s1 (some p10) (.mv (tm p1)) 0, s1 (some p8) (.mv (tm p10)) 1])
  (CC.block 0 (CC.loop (CC.block 1 (CC.seq (CC.run [s1 (some p11) (.mv (tm p8)) 0, s1 (some p12) (.bin .mul (cn (i6 (nn 2))) (tm p11)) 1, s1 (some p13) (.bin .add (tm p12) (cn (i6 (nn 1)))) 2, s1 (some p9) (.mv (tm p13)) 3])
  (CC.seq (CC.seq (CC.run [s1 (some p14) (.mv (tm p9)) 0, s1 (some p15) (.mv (tm p2)) 1, s1 (some p16) (.bin .geq (tm p14) (tm p15)) 2])
  (CC.cond (tm p16) (CC.exit 0)
  CC.skip))
  (CC.seq (CC.seq (CC.draw [] [⟨(some p17), (.mv (tm p9)), none, 0, false, true⟩, ⟨(some p18), (.bin .add (tm p17) (cn (i6 (nn 1)))), none, 1, false, true⟩, s1 (some p19) (.mv (tm p2)) 2, s1 (some p20) (.bin .lss (tm p18) (tm p19)) 3, s1 (some p21) (.mv (tm p20)) 4, ⟨(some p22), (.mv (tm p0)), (some (p21, true)), 5, false, true⟩, ⟨(some p23), (.mv (tm p3)), (some (p21, true)), 6, false, true⟩, ⟨(some p24), (.mv (tm p9)), (some (p21, true)), 7, false, true⟩, ⟨(some p25), (.bin .add (tm p23) (tm p24)), (some (p21, true)), 8, false, true⟩, ⟨(some p26), (.idxAS 1 (tm p22) (tm p25)), (some (p21, true)), 9, false, true⟩, ⟨(some p27), (.ld (tm p26)), (some (p21, true)), 10, false, true⟩, ⟨(some p28), (.mv (tm p0)), (some (p21, true)), 11, false, true⟩, ⟨(some p29), (.mv (tm p3)), (some (p21, true)), 12, false, true⟩, ⟨(some p30), (.mv (tm p9)), (some (p21, true)), 13, true, true⟩, ⟨(some p31), (.bin .add (tm p29) (tm p30)), (some (p21, true)), 14, true, true⟩, ⟨(some p32), (.bin .add (tm p31) (cn (i6 (nn 1)))), (some (p21, true)), 15, true, true⟩, ⟨(some p33), (.idxAS 1 (tm p28) (tm p32)), (some (p21, true)), 16, true, true⟩, ⟨(some p34), (.ld (tm p33)), (some (p21, true)), 17, true, true⟩, ⟨(some p35), (.call (cn (CV.fn 66 [] [])) [(tm p27), (tm p34)]), (some (p21, true)), 18, true, true⟩, s1 (some p36) (.pick (tm p21) (tm p35) (cn (CV.bool false))) 19])
  (CC.cond (tm p36) (CC.run [s1 (some p37) (.mv (tm p9)) 0, s1 (some p38) (.bin .add (tm p37) (cn (i6 (nn 1)))) 1, s1 (some p9) (.mv (tm p38)) 2])
  CC.skip))
  (CC.seq (CC.seq (CC.draw [] [⟨(some p39), (.mv (tm p0)), none, 0, false, true⟩, ⟨(some p40), (.mv (tm p3)), none, 1, false, true⟩, ⟨(some p41), (.mv (tm p8)), none, 2, false, true⟩, ⟨(some p42), (.bin .add (tm p40) (tm p41)), none, 3, false, true⟩, ⟨(some p43), (.idxAS 1 (tm p39) (tm p42)), none, 4, false, true⟩, ⟨(some p44), (.ld (tm p43)), none, 5, false, true⟩, ⟨(some p45), (.mv (tm p0)), none, 6, false, true⟩, ⟨(some p46), (.mv (tm p3)), none, 7, false, true⟩, s1 (some p47) (.mv (tm p9)) 8, s1 (some p48) (.bin .add (tm p46) (tm p47)) 9, s1 (some p49) (.idxAS 1 (tm p45) (tm p48)) 10, s1 (some p50) (.ld (tm p49)) 11, s1 (some p51) (.call (cn (CV.fn 66 [] [])) [(tm p44), (tm p50)]) 12, s1 (some p52) (.not (tm p51)) 13])
  (CC.cond (tm p52) CC.ret
  CC.skip))
  (CC.seq (CC.draw [] [⟨(some p53), (.mv (tm p0)), none, 0, false, true⟩, ⟨(some p54), (.mv (tm p3)), none, 1, false, true⟩, ⟨(some p55), (.mv (tm p8)), none, 2, false, true⟩, ⟨(some p56), (.bin .add (tm p54) (tm p55)), none, 3, false, true⟩, ⟨(some p57), (.mv (tm p0)), none, 4, false, false⟩, ⟨(some p58), (.mv (tm p3)), none, 5, false, false⟩, ⟨(some p59), (.mv (tm p9)), none, 6, false, false⟩, ⟨(some p60), (.bin .add (tm p58) (tm p59)), none, 7, false, false⟩, ⟨(some p61), (.mv (tm p0)), none, 8, false, true⟩, ⟨(some p62), (.mv (tm p3)), none, 9, false, true⟩, ⟨(some p63), (.mv (tm p9)), none, 10, false, true⟩, ⟨(some p64), (.bin .add (tm p62) (tm p63)), none, 11, false, true⟩, ⟨(some p65), (.idxAS 1 (tm p61) (tm p64)), none, 12, false, true⟩, ⟨(some p66), (.ld (tm p65)), none, 13, false, true⟩, ⟨(some p67), (.mv (tm p0)), none, 14, false, true⟩, ⟨(some p68), (.mv (tm p3)), none, 15, false, true⟩, s1 (some p69) (.mv (tm p8)) 16, s1 (some p70) (.bin .add (tm p68) (tm p69)) 17, s1 (some p71) (.idxAS 1 (tm p67) (tm p70)) 18, s1 (some p72) (.ld (tm p71)) 19, s1 (some p73) (.idxAS 1 (tm p53) (tm p56)) 20, s1 none (.st 1 (tm p73) (tm p66)) 21, s1 (some p74) (.idxAS 1 (tm p57) (tm p60)) 22, s1 none (.st 1 (tm p74) (tm p72)) 23])
  (CC.run [s1 (some p75) (.mv (tm p9)) 0, s1 (some p8) (.mv (tm p75)) 1])))))))))), []⟩
theorem lit71_ok : fnO tys 71 Try.f71 = some lit71 := by kernel_rfl
noncomputable def lit72 : CFn :=
  ⟨72, 7, (CC.seq (CC.run [s1 (some p2) (.mv (cn (CV.int .u64 (nn 0)))) 0])
  (CC.seq (CC.run [s1 (some p3) (.mv (tm p0)) 0, s1 (some p4) (.conv .u64 (tm p3)) 1, s1 (some p5) (.call (cn (CV.fn 58 [] [])) [(tm p4)]) 2, s1 (some p6) (.bin .shl (cn (CV.int .u64 (nn 1))) (tm p5)) 3, s1 (some p2) (.mv (tm p6)) 4])
  CC.ret)), [CRes.tmp p2]⟩
theorem lit72_ok : fnO tys 72 Try.f72 = some lit72 := by kernel_rfl
noncomputable def lit73 : CFn :=
  ⟨73, 33, (CC.seq (CC.run [s1 (some p2) (.mv (cn (CV.int .u64 (nn 0)))) 0])
  (CC.seq (CC.draw [] [⟨(some p3), (.mv (tm p0)), none, 0, false, true⟩, ⟨(some p4), (.nilck (tm p3)), none, 1, false, true⟩, ⟨(some p5), (.ld (tm p4)), none, 2, false, true⟩, s1 (some p6) (.mv (tm p0)) 3, s1 (some p7) (.nilck (tm p6)) 4, s1 (some p8) (.ld (tm p7)) 5, s1 (some p9) (.bin .shl (tm p8) (cn (CV.int .u64 (nn 13)))) 6, s1 (some p10) (.bin .xor (tm p5) (tm p9)) 7, s1 (some p11) (.nilck (tm p3)) 8, s1 none (.st 1 (tm p11) (tm p10)) 9])
  (CC.seq (CC.draw [] [⟨(some p12), (.mv (tm p0)), none, 0, false, true⟩, ⟨(some p13), (.nilck (tm p12)), none, 1, false, true⟩, ⟨(some p14), (.ld (tm p13)), none, 2, false, true⟩, s1 (some p15) (.mv (tm p0)) 3, s1 (some p16) (.nilck (tm p15)) 4, s1 (some p17) (.ld (tm p16)) 5, s1 (some p18) (.bin .shr (tm p17) (cn (CV.int .u64 (nn 7)))) 6, s1 (some p19) (.bin .xor (tm p14) (tm p18)) 7, s1 (some p20) (.nilck (tm p12)) 8, s1 none (.st 1 (tm p20) (tm p19)) 9])
  (CC.seq (CC.draw [] [⟨(some p21), (.mv (tm p0)), none, 0, false, true⟩, ⟨(some p22), (.nilck (tm p21)), none, 1, false, true⟩, ⟨(some p23), (.ld (tm p22)), none, 2, false, true⟩, s1 (some p24) (.mv (tm p0)) 3, s1 (some p25) (.nilck (tm p24)) 4, s1 (some p26) (.ld (tm p25)) 5, s1 (some p27) (.bin .shl (tm p26) (cn (CV.int .u64 (nn 17)))) 6, s1 (some p28) (.bin .xor (tm p23) (tm p27)) 7, s1 (some p29) (.nilck (tm p21)) 8, s1 none (.st 1 (tm p29) (tm p28)) 9])
  (CC.seq (CC.run [s1 (some p30) (.mv (tm p0)) 0, s1 (some p31) (.nilck (tm p30)) 1, s1 (some p32) (.ld (tm p31)) 2, s1 (some p2) (.mv (tm p32)) 3])
  CC.ret))))), [CRes.tmp p2]⟩
theorem lit73_ok : fnO tys 73 Try.f73 = some lit73 := by kernel_rfl
noncomputable def lit74 : CFn :=
  ⟨74, 15, (CC.seq (CC.run [s1 (some p6) (.mv (cn (i6 (nn 0)))) 0])
  (CC.seq (CC.run [s1 (some p7) (.mv (tm p0)) 0, s1 (some p8) (.mv (tm p1)) 1, s1 (some p9) (.bin .sub (tm p8) (cn (i6 (nn 1)))) 2, s1 (some p10) (.mv (tm p1)) 3, s1 (some p11) (.mv (tm p1)) 4, s1 (some p12) (.bin .add (tm p11) (cn (i6 (nn 1)))) 5, s1 (some p13) (.mv (tm p2)) 6, s1 (some p14) (.call (cn (CV.fn 75 [] [])) [(tm p7), (tm p9), (tm p10), (tm p12), (tm p13)]) 7, s1 (some p6) (.mv (tm p14)) 8])
  CC.ret)), [CRes.tmp p6]⟩
theorem lit74_ok : fnO tys 74 Try.f74 = some lit74 := by kernel_rfl
noncomputable def lit75 : CFn :=
  ⟨75, 36, (CC.seq (CC.run [s1 (some p10) (.mv (cn (i6 (nn 0)))) 0])
  (CC.seq (CC.run [s1 (some p12) (.mv (tm p0)) 0, s1 (some p13) (.mv (tm p1)) 1, s1 (some p14) (.mv (tm p2)) 2, s1 (some p15) (.mv (tm p4)) 3, s1 (some p16) (.call (cn (CV.fn 77 [] [])) [(tm p12), (tm p13), (tm p14), (tm p15)]) 4, s1 (some p11) (.mv (tm p16)) 5, s1 (some p17) (.extr (tm p11) 0) 6, s1 (some p18) (.extr (tm p11) 1) 7, s1 (some p1) (.mv (tm p17)) 8, s1 (some p2) (.mv (tm p18)) 9])
  (CC.seq (CC.run [s1 (some p20) (.mv (tm p0)) 0, s1 (some p21) (.mv (tm p2)) 1, s1 (some p22) (.mv (tm p3)) 2, s1 (some p23) (.mv (tm p4)) 3, s1 (some p24) (.call (cn (CV.fn 77 [] [])) [(tm p20), (tm p21), (tm p22), (tm p23)]) 4, s1 (some p19) (.mv (tm p24)) 5, s1 (some p25) (.extr (tm p19) 0) 6, s1 (some p26) (.extr (tm p19) 1) 7, s1 (some p2) (.mv (tm p25)) 8, s1 (some p3) (.mv (tm p26)) 9])
  (CC.seq (CC.run [s1 (some p28) (.mv (tm p0)) 0, s1 (some p29) (.mv (tm p1)) 1, s1 (some p30) (.mv (tm p2)) 2, s1 (some p31) (.mv (tm p4)) 3, s1 (some p32) (.call (cn (CV.fn 77 [] [])) [(tm p28), (tm p29), (tm p30), (tm p31)]) 4, s1 (some p27) (.mv (tm p32)) 5, s1 (some p33) (.extr (tm p27) 0) 6, s1 (some p34) (.extr (tm p27) 1) 7, s1 (some p1) (.mv (tm p33)) 8, s1 (some p2) (.mv (tm p34)) 9])
  (CC.seq (CC.run [s1 (some p35) (.mv (tm p2)) 0, s1 (some p10) (.mv (tm p35)) 1])
  CC.ret))))), [CRes.tmp p10]⟩
theorem lit75_ok : fnO tys 75 Try.f75 = some lit75 := by kernel_rfl
noncomputable def lit76 : CFn :=
  ⟨76, 6, (CC.seq (CC.run [s1 (some p2) (.mv (cn (CV.bool false))) 0])
  (CC.seq (CC.run [s1 (some p3) (.mv (tm p0)) 0, s1 (some p4) (.mv (tm p0)) 1, s1 (some p5) (.bin .neq (tm p3) (tm p4)) 2, s1 (some p2) (.mv (tm p5)) 3])
  CC.ret)), [CRes.tmp p2]⟩
theorem lit76_ok : fnO tys 76 Try.f76 = some lit76 := by kernel_rfl
noncomputable def lit77 : CFn :=
  ⟨77, 28, (CC.seq (CC.run [s1 (some p8) (.mv (cn (i6 (nn 0)))) 0, s1 (some p9) (.mv (cn (i6 (nn 0)))) 1])
  (CC.seq (CC.seq (CC.draw [] [⟨(some p10), (.mv (tm p0)), none, 0, false, true⟩, ⟨(some p11), (.mv (tm p2)), none, 1, false, true⟩, ⟨(some p12), (.idxAS 1 (tm p10) (tm p11)), none, 2, false, true⟩, ⟨(some p13), (.ld (tm p12)), none, 3, false, true⟩, ⟨(some p14), (.mv (tm p0)), none, 4, false, true⟩, s1 (some p15) (.mv (tm p1)) 5, s1 (some p16) (.idxAS 1 (tm p14) (tm p15)) 6, s1 (some p17) (.ld (tm p16)) 7, s1 (some p18) (.call (cn (CV.fn 66 [] [])) [(tm p13), (tm p17)]) 8])
  (CC.cond (tm p18) (CC.seq (CC.run [s1 (some p19) (.mv (tm p3)) 0, s1 (some p20) (.nilck (tm p19)) 1, s1 (some p21) (.ld (tm p20)) 2, s1 (some p22) (.bin .add (tm p21) (cn (i6 (nn 1)))) 3, s1 (some p23) (.nilck (tm p19)) 4, s1 none (.st 1 (tm p23) (tm p22)) 5])
  (CC.seq (CC.run [s1 (some p24) (.mv (tm p2)) 0, s1 (some p25) (.mv (tm p1)) 1, s1 (some p8) (.mv (tm p24)) 2, s1 (some p9) (.mv (tm p25)) 3])
  CC.ret))
  CC.skip))
  (CC.seq (CC.run [s1 (some p26) (.mv (tm p1)) 0, s1 (some p27) (.mv (tm p2)) 1, s1 (some p8) (.mv (tm p26)) 2, s1 (some p9) (.mv (tm p27)) 3])
  CC.ret))), [CRes.tmp p8, CRes.tmp p9]⟩
theorem lit77_ok : fnO tys 77 Try.f77 = some lit77 := by kernel_rfl
noncomputable def litl : List (FuncId × Func × CFn) := [(2, Try.f2, lit2), (3, Try.f3, lit3), (4, Try.f4, lit4), (5, Try.f5, lit5), (6, Try.f6, lit6), (7, Try.f7, lit7), (8, Try.f8, lit8), (9, Try.f9, lit9), (10, Try.f10, lit10), (11, Try.f11, lit11), (12, Try.f12, lit12), (13, Try.f13, lit13), (14, Try.f14, lit14), (15, Try.f15, lit15), (16, Try.f16, lit16), (17, Try.f17, lit17), (18, Try.f18, lit18), (19, Try.f19, lit19), (20, Try.f20, lit20), (21, Try.f21, lit21), (22, Try.f22, lit22), (23, Try.f23, lit23), (24, Try.f24, lit24), (25, Try.f25, lit25), (26, Try.f26, lit26), (27, Try.f27, lit27), (28, Try.f28, lit28), (29, Try.f29, lit29), (30, Try.f30, lit30), (31, Try.f31, lit31), (32, Try.f32, lit32), (33, Try.f33, lit33), (34, Try.f34, lit34), (35, Try.f35, lit35), (36, Try.f36, lit36), (37, Try.f37, lit37), (38, Try.f38, lit38), (39, Try.f39, lit39), (40, Try.f40, lit40), (42, Try.f42, lit42), (43, Try.f43, lit43), (44, Try.f44, lit44), (45, Try.f45, lit45), (46, Try.f46, lit46), (47, Try.f47, lit47), (48, Try.f48, lit48), (49, Try.f49, lit49), (50, Try.f50, lit50), (51, Try.f51, lit51), (52, Try.f52, lit52), (53, Try.f53, lit53), (54, Try.f54, lit54), (55, Try.f55, lit55), (56, Try.f56, lit56), (57, Try.f57, lit57), (58, Try.f58, lit58), (59, Try.f59, lit59), (60, Try.f60, lit60), (61, Try.f61, lit61), (62, Try.f62, lit62), (63, Try.f63, lit63), (64, Try.f64, lit64), (65, Try.f65, lit65), (66, Try.f66, lit66), (67, Try.f67, lit67), (68, Try.f68, lit68), (69, Try.f69, lit69), (70, Try.f70, lit70), (71, Try.f71, lit71), (72, Try.f72, lit72), (73, Try.f73, lit73), (74, Try.f74, lit74), (75, Try.f75, lit75), (76, Try.f76, lit76), (77, Try.f77, lit77)]
theorem litl_ok : LitOk Try.prog tys litl := ⟨Try.func2, Try.call2, lit2_ok, Try.func3, Try.call3, lit3_ok, Try.func4, Try.call4, lit4_ok, Try.func5, Try.call5, lit5_ok, Try.func6, Try.call6, lit6_ok, Try.func7, Try.call7, lit7_ok, Try.func8, Try.call8, lit8_ok, Try.func9, Try.call9, lit9_ok, Try.func10, Try.call10, lit10_ok, Try.func11, Try.call11, lit11_ok, Try.func12, Try.call12, lit12_ok, Try.func13, Try.call13, lit13_ok, Try.func14, Try.call14, lit14_ok, Try.func15, Try.call15, lit15_ok, Try.func16, Try.call16, lit16_ok, Try.func17, Try.call17, lit17_ok, Try.func18, Try.call18, lit18_ok, Try.func19, Try.call19, lit19_ok, Try.func20, Try.call20, lit20_ok, Try.func21, Try.call21, lit21_ok, Try.func22, Try.call22, lit22_ok, Try.func23, Try.call23, lit23_ok, Try.func24, Try.call24, lit24_ok, Try.func25, Try.call25, lit25_ok, Try.func26, Try.call26, lit26_ok, Try.func27, Try.call27, lit27_ok, Try.func28, Try.call28, lit28_ok, Try.func29, Try.call29, lit29_ok, Try.func30, Try.call30, lit30_ok, Try.func31, Try.call31, lit31_ok, Try.func32, Try.call32, lit32_ok, Try.func33, Try.call33, lit33_ok, Try.func34, Try.call34, lit34_ok, Try.func35, Try.call35, lit35_ok, Try.func36, Try.call36, lit36_ok, Try.func37, Try.call37, lit37_ok, Try.func38, Try.call38, lit38_ok, Try.func39, Try.call39, lit39_ok, Try.func40, Try.call40, lit40_ok, Try.func42, Try.call42, lit42_ok, Try.func43, Try.call43, lit43_ok, Try.func44, Try.call44, lit44_ok, Try.func45, Try.call45, lit45_ok, Try.func46, Try.call46, lit46_ok, Try.func47, Try.call47, lit47_ok, Try.func48, Try.call48, lit48_ok, Try.func49, Try.call49, lit49_ok, Try.func50, Try.call50, lit50_ok, Try.func51, Try.call51, lit51_ok, Try.func52, Try.call52, lit52_ok, Try.func53, Try.call53, lit53_ok, Try.func54, Try.call54, lit54_ok, Try.func55, Try.call55, lit55_ok, Try.func56, Try.call56, lit56_ok, Try.func57, Try.call57, lit57_ok, Try.func58, Try.call58, lit58_ok, Try.func59, Try.call59, lit59_ok, Try.func60, Try.call60, lit60_ok, Try.func61, Try.call61, lit61_ok, Try.func62, Try.call62, lit62_ok, Try.func63, Try.call63, lit63_ok, Try.func64, Try.call64, lit64_ok, Try.func65, Try.call65, lit65_ok, Try.func66, Try.call66, lit66_ok, Try.func67, Try.call67, lit67_ok, Try.func68, Try.call68, lit68_ok, Try.func69, Try.call69, lit69_ok, Try.func70, Try.call70, lit70_ok, Try.func71, Try.call71, lit71_ok, Try.func72, Try.call72, lit72_ok, Try.func73, Try.call73, lit73_ok, Try.func74, Try.call74, lit74_ok, Try.func75, Try.call75, lit75_ok, Try.func76, Try.call76, lit76_ok, Try.func77, Try.call77, lit77_ok, trivial⟩
noncomputable def litC : T CFn := litT litl
theorem env_lit : EnvOk Try.prog tys litC.get ext := ⟨tys_ok, litT_ok litl_ok, ext_ok, mixed_ok⟩
end Go.Proofs.Ytbaaecphcjhdjaa
