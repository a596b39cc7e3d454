/- For the doer: functions of the translation in the form that it carries out, PRINTED BY a program of this session (mklit.py), each with the proof that it is that form. -/
import Derived.Test.YtkiioneimheciaaGreatCTab
import Derived.Test.YtkiioneimheciaaGreatCxP
set_option linter.all false
set_option maxRecDepth 1000000
namespace Go.Proofs.YtkiioneimheciaaGreat
open Go Go.Sx Go.Cx
def p0 : Tk := .e
def p1 : Tk := .o .e
def p2 : Tk := .i .e
def p3 : Tk := .o (.o .e)
def p4 : Tk := .i (.o .e)
def p5 : Tk := .o (.i .e)
def p6 : Tk := .i (.i .e)
def p7 : Tk := .o (.o (.o .e))
def p8 : Tk := .i (.o (.o .e))
def p9 : Tk := .o (.i (.o .e))
def p10 : Tk := .i (.i (.o .e))
def p11 : Tk := .o (.o (.i .e))
def p12 : Tk := .i (.o (.i .e))
def p13 : Tk := .o (.i (.i .e))
def p14 : Tk := .i (.i (.i .e))
def p15 : Tk := .o (.o (.o (.o .e)))
def p16 : Tk := .i (.o (.o (.o .e)))
def p17 : Tk := .o (.i (.o (.o .e)))
def p18 : Tk := .i (.i (.o (.o .e)))
def p19 : Tk := .o (.o (.i (.o .e)))
def p20 : Tk := .i (.o (.i (.o .e)))
def p21 : Tk := .o (.i (.i (.o .e)))
def p22 : Tk := .i (.i (.i (.o .e)))
def p23 : Tk := .o (.o (.o (.i .e)))
def p24 : Tk := .i (.o (.o (.i .e)))
def p25 : Tk := .o (.i (.o (.i .e)))
def p26 : Tk := .i (.i (.o (.i .e)))
def p27 : Tk := .o (.o (.i (.i .e)))
def p28 : Tk := .i (.o (.i (.i .e)))
def p29 : Tk := .o (.i (.i (.i .e)))
def p30 : Tk := .i (.i (.i (.i .e)))
def p31 : Tk := .o (.o (.o (.o (.o .e))))
def p32 : Tk := .i (.o (.o (.o (.o .e))))
def p33 : Tk := .o (.i (.o (.o (.o .e))))
def p34 : Tk := .i (.i (.o (.o (.o .e))))
def p35 : Tk := .o (.o (.i (.o (.o .e))))
def p36 : Tk := .i (.o (.i (.o (.o .e))))
def p37 : Tk := .o (.i (.i (.o (.o .e))))
def p38 : Tk := .i (.i (.i (.o (.o .e))))
def p39 : Tk := .o (.o (.o (.i (.o .e))))
def p40 : Tk := .i (.o (.o (.i (.o .e))))
def p41 : Tk := .o (.i (.o (.i (.o .e))))
def p42 : Tk := .i (.i (.o (.i (.o .e))))
def p43 : Tk := .o (.o (.i (.i (.o .e))))
def p44 : Tk := .i (.o (.i (.i (.o .e))))
def p45 : Tk := .o (.i (.i (.i (.o .e))))
def p46 : Tk := .i (.i (.i (.i (.o .e))))
def p47 : Tk := .o (.o (.o (.o (.i .e))))
def p48 : Tk := .i (.o (.o (.o (.i .e))))
def p49 : Tk := .o (.i (.o (.o (.i .e))))
def p50 : Tk := .i (.i (.o (.o (.i .e))))
def p51 : Tk := .o (.o (.i (.o (.i .e))))
def p52 : Tk := .i (.o (.i (.o (.i .e))))
def p53 : Tk := .o (.i (.i (.o (.i .e))))
def p54 : Tk := .i (.i (.i (.o (.i .e))))
def p55 : Tk := .o (.o (.o (.i (.i .e))))
def p56 : Tk := .i (.o (.o (.i (.i .e))))
def p57 : Tk := .o (.i (.o (.i (.i .e))))
def p58 : Tk := .i (.i (.o (.i (.i .e))))
def p59 : Tk := .o (.o (.i (.i (.i .e))))
def p60 : Tk := .i (.o (.i (.i (.i .e))))
def p61 : Tk := .o (.i (.i (.i (.i .e))))
def p62 : Tk := .i (.i (.i (.i (.i .e))))
def p63 : Tk := .o (.o (.o (.o (.o (.o .e)))))
def p64 : Tk := .i (.o (.o (.o (.o (.o .e)))))
def p65 : Tk := .o (.i (.o (.o (.o (.o .e)))))
def p66 : Tk := .i (.i (.o (.o (.o (.o .e)))))
def p67 : Tk := .o (.o (.i (.o (.o (.o .e)))))
def p68 : Tk := .i (.o (.i (.o (.o (.o .e)))))
def p69 : Tk := .o (.i (.i (.o (.o (.o .e)))))
def p70 : Tk := .i (.i (.i (.o (.o (.o .e)))))
def p71 : Tk := .o (.o (.o (.i (.o (.o .e)))))
def p72 : Tk := .i (.o (.o (.i (.o (.o .e)))))
def p73 : Tk := .o (.i (.o (.i (.o (.o .e)))))
def p74 : Tk := .i (.i (.o (.i (.o (.o .e)))))
def p75 : Tk := .o (.o (.i (.i (.o (.o .e)))))
def p76 : Tk := .i (.o (.i (.i (.o (.o .e)))))
def p77 : Tk := .o (.i (.i (.i (.o (.o .e)))))
def p78 : Tk := .i (.i (.i (.i (.o (.o .e)))))
def p79 : Tk := .o (.o (.o (.o (.i (.o .e)))))
def p80 : Tk := .i (.o (.o (.o (.i (.o .e)))))
def p81 : Tk := .o (.i (.o (.o (.i (.o .e)))))
def p82 : Tk := .i (.i (.o (.o (.i (.o .e)))))
def p83 : Tk := .o (.o (.i (.o (.i (.o .e)))))
def p84 : Tk := .i (.o (.i (.o (.i (.o .e)))))
def p85 : Tk := .o (.i (.i (.o (.i (.o .e)))))
def p86 : Tk := .i (.i (.i (.o (.i (.o .e)))))
def p87 : Tk := .o (.o (.o (.i (.i (.o .e)))))
def p88 : Tk := .i (.o (.o (.i (.i (.o .e)))))
def p89 : Tk := .o (.i (.o (.i (.i (.o .e)))))
def p90 : Tk := .i (.i (.o (.i (.i (.o .e)))))
def p91 : Tk := .o (.o (.i (.i (.i (.o .e)))))
def p92 : Tk := .i (.o (.i (.i (.i (.o .e)))))
def p93 : Tk := .o (.i (.i (.i (.i (.o .e)))))
def p94 : Tk := .i (.i (.i (.i (.i (.o .e)))))
def p95 : Tk := .o (.o (.o (.o (.o (.i .e)))))
def p96 : Tk := .i (.o (.o (.o (.o (.i .e)))))
def p97 : Tk := .o (.i (.o (.o (.o (.i .e)))))
def p98 : Tk := .i (.i (.o (.o (.o (.i .e)))))
def p99 : Tk := .o (.o (.i (.o (.o (.i .e)))))
def p100 : Tk := .i (.o (.i (.o (.o (.i .e)))))
def p101 : Tk := .o (.i (.i (.o (.o (.i .e)))))
def p102 : Tk := .i (.i (.i (.o (.o (.i .e)))))
def p103 : Tk := .o (.o (.o (.i (.o (.i .e)))))
def p104 : Tk := .i (.o (.o (.i (.o (.i .e)))))
def p105 : Tk := .o (.i (.o (.i (.o (.i .e)))))
def p106 : Tk := .i (.i (.o (.i (.o (.i .e)))))
def p107 : Tk := .o (.o (.i (.i (.o (.i .e)))))
def p108 : Tk := .i (.o (.i (.i (.o (.i .e)))))
def p109 : Tk := .o (.i (.i (.i (.o (.i .e)))))
def p110 : Tk := .i (.i (.i (.i (.o (.i .e)))))
def p111 : Tk := .o (.o (.o (.o (.i (.i .e)))))
def p112 : Tk := .i (.o (.o (.o (.i (.i .e)))))
def p113 : Tk := .o (.i (.o (.o (.i (.i .e)))))
def p114 : Tk := .i (.i (.o (.o (.i (.i .e)))))
def p115 : Tk := .o (.o (.i (.o (.i (.i .e)))))
def p116 : Tk := .i (.o (.i (.o (.i (.i .e)))))
def p117 : Tk := .o (.i (.i (.o (.i (.i .e)))))
def p118 : Tk := .i (.i (.i (.o (.i (.i .e)))))
def p119 : Tk := .o (.o (.o (.i (.i (.i .e)))))
def p120 : Tk := .i (.o (.o (.i (.i (.i .e)))))
def p121 : Tk := .o (.i (.o (.i (.i (.i .e)))))
def p122 : Tk := .i (.i (.o (.i (.i (.i .e)))))
def p123 : Tk := .o (.o (.i (.i (.i (.i .e)))))
def p124 : Tk := .i (.o (.i (.i (.i (.i .e)))))
def p125 : Tk := .o (.i (.i (.i (.i (.i .e)))))
def p126 : Tk := .i (.i (.i (.i (.i (.i .e)))))
def p127 : Tk := .o (.o (.o (.o (.o (.o (.o .e))))))
def p128 : Tk := .i (.o (.o (.o (.o (.o (.o .e))))))
def p129 : Tk := .o (.i (.o (.o (.o (.o (.o .e))))))
def p130 : Tk := .i (.i (.o (.o (.o (.o (.o .e))))))
def p131 : Tk := .o (.o (.i (.o (.o (.o (.o .e))))))
def p132 : Tk := .i (.o (.i (.o (.o (.o (.o .e))))))
def p133 : Tk := .o (.i (.i (.o (.o (.o (.o .e))))))
def p134 : Tk := .i (.i (.i (.o (.o (.o (.o .e))))))
def p135 : Tk := .o (.o (.o (.i (.o (.o (.o .e))))))
def p136 : Tk := .i (.o (.o (.i (.o (.o (.o .e))))))
def p137 : Tk := .o (.i (.o (.i (.o (.o (.o .e))))))
def p138 : Tk := .i (.i (.o (.i (.o (.o (.o .e))))))
def p139 : Tk := .o (.o (.i (.i (.o (.o (.o .e))))))
def p140 : Tk := .i (.o (.i (.i (.o (.o (.o .e))))))
def p141 : Tk := .o (.i (.i (.i (.o (.o (.o .e))))))
def p142 : Tk := .i (.i (.i (.i (.o (.o (.o .e))))))
def p143 : Tk := .o (.o (.o (.o (.i (.o (.o .e))))))
def p144 : Tk := .i (.o (.o (.o (.i (.o (.o .e))))))
def p145 : Tk := .o (.i (.o (.o (.i (.o (.o .e))))))
def p146 : Tk := .i (.i (.o (.o (.i (.o (.o .e))))))
def p147 : Tk := .o (.o (.i (.o (.i (.o (.o .e))))))
def p148 : Tk := .i (.o (.i (.o (.i (.o (.o .e))))))
def p149 : Tk := .o (.i (.i (.o (.i (.o (.o .e))))))
def p150 : Tk := .i (.i (.i (.o (.i (.o (.o .e))))))
def p151 : Tk := .o (.o (.o (.i (.i (.o (.o .e))))))
def p152 : Tk := .i (.o (.o (.i (.i (.o (.o .e))))))
def p153 : Tk := .o (.i (.o (.i (.i (.o (.o .e))))))
def p154 : Tk := .i (.i (.o (.i (.i (.o (.o .e))))))
def p155 : Tk := .o (.o (.i (.i (.i (.o (.o .e))))))
def p156 : Tk := .i (.o (.i (.i (.i (.o (.o .e))))))
def p157 : Tk := .o (.i (.i (.i (.i (.o (.o .e))))))
def p158 : Tk := .i (.i (.i (.i (.i (.o (.o .e))))))
def p159 : Tk := .o (.o (.o (.o (.o (.i (.o .e))))))
def p160 : Tk := .i (.o (.o (.o (.o (.i (.o .e))))))
def p161 : Tk := .o (.i (.o (.o (.o (.i (.o .e))))))
def p162 : Tk := .i (.i (.o (.o (.o (.i (.o .e))))))
def p163 : Tk := .o (.o (.i (.o (.o (.i (.o .e))))))
def p164 : Tk := .i (.o (.i (.o (.o (.i (.o .e))))))
def p165 : Tk := .o (.i (.i (.o (.o (.i (.o .e))))))
def p166 : Tk := .i (.i (.i (.o (.o (.i (.o .e))))))
def p167 : Tk := .o (.o (.o (.i (.o (.i (.o .e))))))
def p168 : Tk := .i (.o (.o (.i (.o (.i (.o .e))))))
def p169 : Tk := .o (.i (.o (.i (.o (.i (.o .e))))))
def p170 : Tk := .i (.i (.o (.i (.o (.i (.o .e))))))
def p171 : Tk := .o (.o (.i (.i (.o (.i (.o .e))))))
def p172 : Tk := .i (.o (.i (.i (.o (.i (.o .e))))))
def p173 : Tk := .o (.i (.i (.i (.o (.i (.o .e))))))
def p174 : Tk := .i (.i (.i (.i (.o (.i (.o .e))))))
def p175 : Tk := .o (.o (.o (.o (.i (.i (.o .e))))))
def p176 : Tk := .i (.o (.o (.o (.i (.i (.o .e))))))
def p177 : Tk := .o (.i (.o (.o (.i (.i (.o .e))))))
abbrev nn (n : Nat) : Int := Int.ofNat n
abbrev tm (p : Tk) : Opd := Opd.tmp p
abbrev cn (v : CV) : Opd := Opd.con v
abbrev s1 (d : Option Tk) (o : COp) (i : Nat) : Stp := ⟨d, o, none, i, true, true⟩
abbrev i6 (n : Int) : CV := CV.int IntKind.i64 n
abbrev i3 (n : Int) : CV := CV.int IntKind.i32 n
noncomputable def bs (l : List Nat) : ByteArray := ⟨(l.map UInt8.ofNat).toArray⟩
noncomputable def lit9 : CFn :=
  ⟨9, 55, (CC.seq (CC.run [s1 (some p0) (.mv (cn (CV.bool false))) 0])
  (CC.seq (CC.run [s1 (some p6) (.build [(CV.str (bs [])), (CV.int .u8 (nn 0)), CV.nils, CV.nils, CV.nils, CV.nils, CV.nils, CV.nils, CV.nils, CV.nils, CV.nils, CV.nils] []) 0, s1 (some p7) (.call (cn (CV.fn 39 [] [])) [(tm p6)]) 1, s1 (some p5) (.mv (tm p7)) 2, s1 (some p8) (.extr (tm p5) 0) 3, s1 (some p9) (.extr (tm p5) 1) 4, s1 (some p1) (.mv (tm p8)) 5, s1 (some p2) (.mv (tm p9)) 6])
  (CC.seq (CC.run [s1 (some p11) (.build [(CV.str (bs [])), CV.nils] []) 0, s1 (some p12) (.call (cn (CV.fn 29 [] [])) [(tm p11)]) 1, s1 (some p10) (.mv (tm p12)) 2, s1 (some p13) (.extr (tm p10) 0) 3, s1 (some p14) (.extr (tm p10) 1) 4, s1 (some p3) (.mv (tm p13)) 5, s1 (some p4) (.mv (tm p14)) 6])
  (CC.seq (CC.run [s1 (some p15) (.mv (cn (CV.bool true))) 0, ⟨(some p16), (.mv (tm p1)), (some (p15, true)), 1, true, true⟩, ⟨(some p17), (.len false (tm p16)), (some (p15, true)), 2, true, true⟩, ⟨(some p18), (.bin .eql (tm p17) (cn (i6 (nn 0)))), (some (p15, true)), 3, true, true⟩, s1 (some p19) (.pick (tm p15) (tm p18) (cn (CV.bool false))) 4, s1 (some p20) (.mv (tm p19)) 5, ⟨(some p21), (.mv (tm p2)), (some (p20, true)), 6, true, true⟩, ⟨(some p22), (.bin .eql (tm p21) (cn (i6 (nn 0)))), (some (p20, true)), 7, true, true⟩, s1 (some p23) (.pick (tm p20) (tm p22) (cn (CV.bool false))) 8, s1 (some p24) (.mv (tm p23)) 9, ⟨(some p25), (.mv (tm p3)), (some (p24, true)), 10, true, true⟩, ⟨(some p26), (.len false (tm p25)), (some (p24, true)), 11, true, true⟩, ⟨(some p27), (.bin .eql (tm p26) (cn (i6 (nn 0)))), (some (p24, true)), 12, true, true⟩, s1 (some p28) (.pick (tm p24) (tm p27) (cn (CV.bool false))) 13, s1 (some p29) (.mv (tm p28)) 14, ⟨(some p30), (.mv (tm p4)), (some (p29, true)), 15, true, true⟩, ⟨(some p31), (.bin .eql (tm p30) (cn (i6 (nn 0)))), (some (p29, true)), 16, true, true⟩, s1 (some p32) (.pick (tm p29) (tm p31) (cn (CV.bool false))) 17, s1 (some p33) (.mv (tm p32)) 18, ⟨(some p34), (.build [(CV.str (bs [])), CV.nils] []), (some (p33, true)), 19, true, true⟩, ⟨(some p35), (.call (cn (CV.fn 17 [] [])) [(tm p34)]), (some (p33, true)), 20, true, true⟩, ⟨(some p36), (.len false (tm p35)), (some (p33, true)), 21, true, true⟩, ⟨(some p37), (.bin .eql (tm p36) (cn (i6 (nn 0)))), (some (p33, true)), 22, true, true⟩, s1 (some p38) (.pick (tm p33) (tm p37) (cn (CV.bool false))) 23, s1 (some p39) (.mv (tm p38)) 24, ⟨(some p40), (.build [(CV.str (bs [])), CV.nils] []), (some (p39, true)), 25, true, true⟩, ⟨(some p41), (.call (cn (CV.fn 18 [] [])) [(tm p40)]), (some (p39, true)), 26, true, true⟩, ⟨(some p42), (.len false (tm p41)), (some (p39, true)), 27, true, true⟩, ⟨(some p43), (.bin .eql (tm p42) (cn (i6 (nn 0)))), (some (p39, true)), 28, true, true⟩, s1 (some p44) (.pick (tm p39) (tm p43) (cn (CV.bool false))) 29, s1 (some p45) (.mv (tm p44)) 30, ⟨(some p46), (.build [(CV.str (bs [])), (CV.int .u8 (nn 0)), CV.nils, CV.nils, CV.nils, CV.nils, CV.nils, CV.nils, CV.nils, CV.nils, CV.nils, CV.nils] []), (some (p45, true)), 31, true, true⟩, ⟨(some p47), (.build [(CV.str (bs [])), CV.nils, (CV.bool false)] []), (some (p45, true)), 32, true, true⟩, ⟨(some p48), (.call (cn (CV.fn 37 [] [])) [(tm p46), (tm p47)]), (some (p45, true)), 33, true, true⟩, ⟨(some p49), (.len false (tm p48)), (some (p45, true)), 34, true, true⟩, ⟨(some p50), (.bin .eql (tm p49) (cn (i6 (nn 0)))), (some (p45, true)), 35, true, true⟩, s1 (some p51) (.pick (tm p45) (tm p50) (cn (CV.bool false))) 36, s1 (some p52) (.mv (tm p51)) 37, ⟨(some p53), (.call (cn (CV.fn 13 [] [])) []), (some (p52, true)), 38, true, true⟩, s1 (some p54) (.pick (tm p52) (tm p53) (cn (CV.bool false))) 39, s1 (some p0) (.mv (tm p54)) 40])
  CC.ret)))), [CRes.tmp p0]⟩
theorem lit9_ok : fnO tys 9 Tryz.f9 = some lit9 := by kernel_rfl
noncomputable def lit13 : CFn :=
  ⟨13, 54, (CC.seq (CC.run [s1 (some p0) (.mv (cn (CV.bool false))) 0])
  (CC.seq (CC.run [s1 (some p5) (.build [(CV.int .u32 (nn 0)), (CV.int .u32 (nn 0))] [(1, 1, (cn (CV.int .u32 (nn 65535))))]) 0, s1 (some p1) (.new 90 [(CV.int .u32 (nn 0)), (CV.int .u32 (nn 0))]) 1, s1 none (.st 2 (tm p1) (tm p5)) 2])
  (CC.seq (CC.run [s1 (some p7) (.ldn 2 (tm p1)) 0, s1 (some p8) (.ldn 2 (tm p1)) 1, s1 (some p9) (.build [(CV.bool false), (i6 (nn 0)), (CV.int .u32 (nn 0)), (i6 (nn 0)), (CV.int .u32 (nn 0)), (i6 (nn 0)), (CV.int .u32 (nn 0)), (CV.int .u32 (nn 0)), (CV.int .u32 (nn 0)), (CV.int .u32 (nn 0))] [(0, 1, (cn (CV.bool true))), (1, 1, (cn (i6 (nn 6)))), (6, 2, (tm p7)), (8, 2, (tm p8))]) 2, s1 (some p10) (.ldn 2 (tm p1)) 3, s1 (some p11) (.ldn 2 (tm p1)) 4, s1 (some p12) (.build [(CV.bool false), (i6 (nn 0)), (CV.int .u32 (nn 0)), (i6 (nn 0)), (CV.int .u32 (nn 0)), (i6 (nn 0)), (CV.int .u32 (nn 0)), (CV.int .u32 (nn 0)), (CV.int .u32 (nn 0)), (CV.int .u32 (nn 0))] [(1, 1, (cn (i6 (Int.negSucc 0)))), (6, 2, (tm p10)), (8, 2, (tm p11))]) 5, s1 (some p13) (.ldn 2 (tm p1)) 6, s1 (some p14) (.ldn 2 (tm p1)) 7, s1 (some p15) (.build [(CV.bool false), (i6 (nn 0)), (CV.int .u32 (nn 0)), (i6 (nn 0)), (CV.int .u32 (nn 0)), (i6 (nn 0)), (CV.int .u32 (nn 0)), (CV.int .u32 (nn 0)), (CV.int .u32 (nn 0)), (CV.int .u32 (nn 0))] [(0, 1, (cn (CV.bool true))), (1, 1, (cn (i6 (nn 17)))), (6, 2, (tm p13)), (8, 2, (tm p14))]) 8, s1 (some p16) (.bslice 92 10 3 [(CV.bool false), (i6 (nn 0)), (CV.int .u32 (nn 0)), (i6 (nn 0)), (CV.int .u32 (nn 0)), (i6 (nn 0)), (CV.int .u32 (nn 0)), (CV.int .u32 (nn 0)), (CV.int .u32 (nn 0)), (CV.int .u32 (nn 0)), (CV.bool false), (i6 (nn 0)), (CV.int .u32 (nn 0)), (i6 (nn 0)), (CV.int .u32 (nn 0)), (i6 (nn 0)), (CV.int .u32 (nn 0)), (CV.int .u32 (nn 0)), (CV.int .u32 (nn 0)), (CV.int .u32 (nn 0)), (CV.bool false), (i6 (nn 0)), (CV.int .u32 (nn 0)), (i6 (nn 0)), (CV.int .u32 (nn 0)), (i6 (nn 0)), (CV.int .u32 (nn 0)), (CV.int .u32 (nn 0)), (CV.int .u32 (nn 0)), (CV.int .u32 (nn 0))] [(0, 10, (tm p9)), (10, 10, (tm p12)), (20, 10, (tm p15))]) 9, s1 (some p17) (.build [(CV.str (bs [])), CV.nils] [(1, 1, (tm p16))]) 10, s1 (some p18) (.call (cn (CV.fn 29 [] [])) [(tm p17)]) 11, s1 (some p6) (.mv (tm p18)) 12, s1 (some p19) (.extr (tm p6) 0) 13, s1 (some p20) (.extr (tm p6) 1) 14, s1 (some p2) (.mv (tm p19)) 15, s1 (some p3) (.mv (tm p20)) 16])
  (CC.seq (CC.run [s1 (some p21) (.bslice 42 1 2 [(CV.int .u32 (nn 0)), (CV.int .u32 (nn 0))] [(0, 1, (cn (CV.int .u32 (nn 1)))), (1, 1, (cn (CV.int .u32 (nn 2))))]) 0, s1 (some p22) (.build [(CV.bool false), CV.nils] [(1, 1, (tm p21))]) 1, s1 (some p23) (.bslice 42 1 1 [(CV.int .u32 (nn 0))] [(0, 1, (cn (CV.int .u32 (nn 1))))]) 2, s1 (some p24) (.build [(CV.bool false), CV.nils] [(1, 1, (tm p23))]) 3, s1 (some p25) (.bslice 42 1 3 [(CV.int .u32 (nn 0)), (CV.int .u32 (nn 0)), (CV.int .u32 (nn 0))] [(0, 1, (cn (CV.int .u32 (nn 1)))), (1, 1, (cn (CV.int .u32 (nn 2)))), (2, 1, (cn (CV.int .u32 (nn 3))))]) 4, s1 (some p26) (.build [(CV.bool false), CV.nils] [(1, 1, (tm p25))]) 5, s1 (some p27) (.bslice 73 2 3 [(CV.bool false), CV.nils, (CV.bool false), CV.nils, (CV.bool false), CV.nils] [(0, 2, (tm p22)), (2, 2, (tm p24)), (4, 2, (tm p26))]) 6, s1 (some p28) (.build [(CV.str (bs [])), CV.nils] [(1, 1, (tm p27))]) 7, s1 (some p29) (.call (cn (CV.fn 18 [] [])) [(tm p28)]) 8, s1 (some p4) (.mv (tm p29)) 9])
  (CC.seq (CC.run [s1 (some p30) (.mv (tm p3)) 0, s1 (some p31) (.bin .eql (tm p30) (cn (i6 (nn 0)))) 1, s1 (some p32) (.mv (tm p31)) 2, ⟨(some p33), (.mv (tm p2)), (some (p32, true)), 3, true, true⟩, ⟨(some p34), (.len false (tm p33)), (some (p32, true)), 4, true, true⟩, ⟨(some p35), (.bin .eql (tm p34) (cn (i6 (nn 1)))), (some (p32, true)), 5, true, true⟩, s1 (some p36) (.pick (tm p32) (tm p35) (cn (CV.bool false))) 6, s1 (some p37) (.mv (tm p36)) 7, ⟨(some p38), (.mv (tm p2)), (some (p37, true)), 8, true, true⟩, ⟨(some p39), (.idxAS 1 (tm p38) (cn (i6 (nn 0)))), (some (p37, true)), 9, true, true⟩, ⟨(some p40), (.ld (tm p39)), (some (p37, true)), 10, true, true⟩, ⟨(some p41), (.bin .eql (tm p40) (cn (i6 (nn 2)))), (some (p37, true)), 11, true, true⟩, s1 (some p42) (.pick (tm p37) (tm p41) (cn (CV.bool false))) 12, s1 (some p43) (.mv (tm p42)) 13, ⟨(some p44), (.mv (tm p4)), (some (p43, true)), 14, true, true⟩, ⟨(some p45), (.len false (tm p44)), (some (p43, true)), 15, true, true⟩, ⟨(some p46), (.bin .eql (tm p45) (cn (i6 (nn 1)))), (some (p43, true)), 16, true, true⟩, s1 (some p47) (.pick (tm p43) (tm p46) (cn (CV.bool false))) 17, s1 (some p48) (.mv (tm p47)) 18, ⟨(some p49), (.mv (tm p4)), (some (p48, true)), 19, true, true⟩, ⟨(some p50), (.idxAS 1 (tm p49) (cn (i6 (nn 0)))), (some (p48, true)), 20, true, true⟩, ⟨(some p51), (.ld (tm p50)), (some (p48, true)), 21, true, true⟩, ⟨(some p52), (.bin .eql (tm p51) (cn (i6 (nn 2)))), (some (p48, true)), 22, true, true⟩, s1 (some p53) (.pick (tm p48) (tm p52) (cn (CV.bool false))) 23, s1 (some p0) (.mv (tm p53)) 24])
  CC.ret))))), [CRes.tmp p0]⟩
theorem lit13_ok : fnO tys 13 Tryz.f13 = some lit13 := by kernel_rfl
noncomputable def lit14 : CFn :=
  ⟨14, 107, (CC.seq (CC.run [s1 (some p1) (.box 33 (tm p0)) 0, s1 (some p2) (.mv (cn CV.nils)) 1, s1 (some p3) (.mv (cn (i6 (nn 0)))) 2])
  (CC.seq (CC.seq (CC.run [s1 (some p22) (.fldA 4 (tm p1)) 0, s1 (some p23) (.ld (tm p22)) 1, s1 (some p24) (.len false (tm p23)) 2, s1 (some p25) (.mv (cn (i6 (nn 0)))) 3])
  (CC.block 0 (CC.loop (CC.seq (CC.run [s1 (some p26) (.bin .lss (tm p25) (tm p24)) 0])
  (CC.seq (CC.cond (tm p26) CC.skip
  (CC.exit 0))
  (CC.seq (CC.block 1 (CC.seq (CC.run [s1 (some p27) (.idxAS 2 (tm p23) (tm p25)) 0, s1 (some p28) (.ldn 2 (tm p27)) 1, s1 (some p5) (.new 88 [(CV.str (bs [])), CV.nils]) 2, s1 none (.st 2 (tm p5) (tm p28)) 3])
  (CC.seq (CC.run [s1 (some p29) (.ldn 2 (tm p5)) 0, s1 (some p30) (.call (cn (CV.fn 44 [] [])) [(tm p29)]) 1, s1 (some p6) (.mv (tm p30)) 2])
  (CC.seq (CC.run [s1 (some p31) (.mv (tm p6)) 0, s1 (some p32) (.bin .neq (tm p31) (cn (i6 (nn 0)))) 1])
  (CC.cond (tm p32) (CC.seq (CC.run [s1 (some p33) (.mv (tm p6)) 0, s1 (some p2) (.mv (cn CV.nils)) 1, s1 (some p3) (.mv (tm p33)) 2])
  CC.ret)
  CC.skip)))))
  (CC.run [s1 (some p34) (.bin .add (tm p25) (cn (i6 (nn 1)))) 0, s1 (some p25) (.mv (tm p34)) 1])))))))
  (CC.seq (CC.run [s1 (some p36) (.call (cn (CV.fn 28 [] [])) [(cn (i6 (nn 4194304)))]) 0, s1 (some p35) (.mv (tm p36)) 1, s1 (some p37) (.extr (tm p35) 0) 2, s1 (some p38) (.extr (tm p35) 1) 3, s1 (some p7) (.mv (tm p37)) 4, s1 (some p8) (.mv (tm p38)) 5])
  (CC.seq (CC.run [s1 (some p39) .mkmap 0, s1 (some p9) (.mv (tm p39)) 1])
  (CC.seq (CC.run [s1 (some p10) (.mv (cn CV.nils)) 0])
  (CC.seq (CC.seq (CC.run [s1 (some p40) (.fldA 5 (tm p1)) 0, s1 (some p41) (.ld (tm p40)) 1, s1 (some p42) (.len false (tm p41)) 2, s1 (some p43) (.mv (cn (i6 (nn 0)))) 3])
  (CC.block 2 (CC.loop (CC.seq (CC.run [s1 (some p44) (.bin .lss (tm p43) (tm p42)) 0])
  (CC.seq (CC.cond (tm p44) CC.skip
  (CC.exit 2))
  (CC.seq (CC.block 3 (CC.seq (CC.run [s1 (some p45) (.mv (tm p43)) 0, s1 (some p46) (.idxAS 3 (tm p41) (tm p43)) 1, s1 (some p47) (.ldn 3 (tm p46)) 2, s1 (some p12) (.new 45 [(CV.bool false), (CV.str (bs [])), (CV.int .u32 (nn 0))]) 3, s1 (some p11) (.mv (tm p45)) 4, s1 none (.st 3 (tm p12) (tm p47)) 5])
  (CC.seq (CC.run [s1 (some p13) (.mv (cn (i6 (nn 1)))) 0])
  (CC.seq (CC.seq (CC.run [s1 (some p48) (.fldA 1 (tm p12)) 0, s1 (some p49) (.ld (tm p48)) 1, s1 (some p50) (.bin .neq (tm p49) (cn (CV.str (bs [])))) 2])
  (CC.cond (tm p50) (CC.seq (CC.run [s1 (some p52) (.fldA 4 (tm p1)) 0, s1 (some p53) (.ld (tm p52)) 1, s1 (some p54) (.fldA 1 (tm p12)) 2, s1 (some p55) (.ld (tm p54)) 3, s1 (some p56) (.call (cn (CV.fn 45 [] [])) [(tm p53), (tm p55)]) 4, s1 (some p51) (.mv (tm p56)) 5, s1 (some p57) (.extr (tm p51) 0) 6, s1 (some p58) (.extr (tm p51) 1) 7, s1 (some p14) (.new 88 [(CV.str (bs [])), CV.nils]) 8, s1 none (.st 2 (tm p14) (tm p57)) 9, s1 (some p15) (.mv (tm p58)) 10])
  (CC.seq (CC.run [s1 (some p60) (.mv (tm p7)) 0, s1 (some p61) (.ldn 2 (tm p14)) 1, s1 (some p62) (.call (cn (CV.fn 31 [] [])) [(tm p60), (tm p61)]) 2, s1 (some p59) (.mv (tm p62)) 3, s1 (some p63) (.extr (tm p59) 0) 4, s1 (some p64) (.extr (tm p59) 1) 5, s1 (some p16) (.mv (tm p63)) 6, s1 (some p17) (.mv (tm p64)) 7])
  (CC.seq (CC.seq (CC.run [s1 (some p65) (.mv (tm p17)) 0, s1 (some p66) (.bin .neq (tm p65) (cn (i6 (nn 0)))) 1])
  (CC.cond (tm p66) (CC.seq (CC.run [s1 (some p67) (.mv (tm p17)) 0, s1 (some p2) (.mv (cn CV.nils)) 1, s1 (some p3) (.mv (tm p67)) 2])
  CC.ret)
  CC.skip))
  (CC.run [s1 (some p68) (.mv (tm p16)) 0, s1 (some p13) (.mv (tm p68)) 1]))))
  CC.skip))
  (CC.seq (CC.run [s1 (some p70) (.mv (tm p7)) 0, s1 (some p71) (.mv (tm p13)) 1, s1 (some p72) (.mv (tm p9)) 2, s1 (some p73) (.fldA 0 (tm p12)) 3, s1 (some p74) (.ld (tm p73)) 4, s1 (some p75) (.look KK.bool (i6 (nn 0)) false (tm p72) (tm p74)) 5, s1 (some p76) (.call (cn (CV.fn 46 [] [])) [(tm p70), (tm p71), (tm p75)]) 6, s1 (some p69) (.mv (tm p76)) 7, s1 (some p77) (.extr (tm p69) 0) 8, s1 (some p78) (.extr (tm p69) 1) 9, s1 (some p18) (.mv (tm p77)) 10, s1 (some p19) (.mv (tm p78)) 11])
  (CC.seq (CC.run [s1 (some p80) (.mv (tm p7)) 0, s1 (some p81) (.mv (tm p13)) 1, s1 (some p82) (.mv (tm p9)) 2, s1 (some p83) (.fldA 0 (tm p12)) 3, s1 (some p84) (.ld (tm p83)) 4, s1 (some p85) (.look KK.bool (i6 (nn 0)) false (tm p82) (tm p84)) 5, s1 (some p86) (.call (cn (CV.fn 47 [] [])) [(tm p80), (tm p81), (tm p85)]) 6, s1 (some p79) (.mv (tm p86)) 7, s1 (some p87) (.extr (tm p79) 0) 8, s1 (some p88) (.extr (tm p79) 1) 9, s1 (some p20) (.mv (tm p87)) 10, s1 (some p21) (.mv (tm p88)) 11])
  (CC.seq (CC.seq (CC.run [s1 (some p89) (.mv (tm p19)) 0, s1 (some p90) (.bin .neq (tm p89) (cn (i6 (nn 0)))) 1, s1 (some p91) (.mv (tm p90)) 2, ⟨(some p92), (.mv (tm p21)), (some (p91, false)), 3, true, true⟩, ⟨(some p93), (.bin .neq (tm p92) (cn (i6 (nn 0)))), (some (p91, false)), 4, true, true⟩, s1 (some p94) (.pick (tm p91) (cn (CV.bool true)) (tm p93)) 5])
  (CC.cond (tm p94) (CC.seq (CC.run [s1 (some p2) (.mv (cn CV.nils)) 0, s1 (some p3) (.mv (cn (i6 (nn 3)))) 1])
  CC.ret)
  CC.skip))
  (CC.seq (CC.seq (CC.run [s1 (some p95) (.mv (tm p18)) 0, s1 (some p96) (.bin .eql (tm p95) (cn (i6 (nn 0)))) 1])
  (CC.cond (tm p96) (CC.run [s1 (some p97) (.mv (tm p10)) 0, s1 (some p98) (.mv (tm p11)) 1, s1 (some p99) (.bslice 3 1 1 [(i6 (nn 0))] [(0, 1, (tm p98))]) 2, s1 (some p100) (.app 3 1 8 (tm p97) (tm p99)) 3, s1 (some p10) (.mv (tm p100)) 4])
  CC.skip))
  (CC.run [s1 (some p101) (.mv (tm p9)) 0, s1 (some p102) (.fldA 0 (tm p12)) 1, s1 (some p103) (.ld (tm p102)) 2, s1 (some p104) (.mv (tm p20)) 3, s1 none (.mupd KK.bool (tm p101) (tm p103) (tm p104)) 4])))))))))
  (CC.run [s1 (some p105) (.bin .add (tm p43) (cn (i6 (nn 1)))) 0, s1 (some p43) (.mv (tm p105)) 1])))))))
  (CC.seq (CC.run [s1 (some p106) (.mv (tm p10)) 0, s1 (some p2) (.mv (tm p106)) 1, s1 (some p3) (.mv (cn (i6 (nn 0)))) 2])
  CC.ret))))))), [CRes.tmp p2, CRes.tmp p3]⟩
theorem lit14_ok : fnO tys 14 Tryz.f14 = some lit14 := by kernel_rfl
noncomputable def lit17 : CFn :=
  ⟨17, 76, (CC.seq (CC.run [s1 (some p1) (.box 54 (tm p0)) 0, s1 (some p2) (.mv (cn CV.nils)) 1])
  (CC.seq (CC.run [s1 (some p12) (.fldA 1 (tm p1)) 0, s1 (some p13) (.ld (tm p12)) 1, s1 (some p14) (.len false (tm p13)) 2, s1 (some p15) (.mksl 4 1 1 [(CV.bool false)] (tm p14) (tm p14)) 3, s1 (some p3) (.new 61 [CV.nils]) 4, s1 none (.st 1 (tm p3) (tm p15)) 5])
  (CC.seq (CC.seq (CC.run [s1 (some p16) (.mv (cn (i6 (nn 0)))) 0])
  (CC.block 0 (CC.loop (CC.seq (CC.run [s1 (some p17) (.bin .lss (tm p16) (cn (i6 (nn 33)))) 0])
  (CC.seq (CC.cond (tm p17) CC.skip
  (CC.exit 0))
  (CC.seq (CC.block 1 (CC.seq (CC.run [s1 (some p18) (.mv (tm p16)) 0, s1 (some p4) (.mv (tm p18)) 1])
  (CC.seq (CC.run [s1 (some p5) (.mv (cn CV.nils)) 0])
  (CC.seq (CC.run [s1 (some p19) (.fldA 1 (tm p1)) 0, s1 (some p20) (.ld (tm p19)) 1, s1 (some p21) (.len false (tm p20)) 2, s1 (some p22) (.mv (cn (i6 (nn 0)))) 3])
  (CC.block 2 (CC.loop (CC.seq (CC.run [s1 (some p23) (.bin .lss (tm p22) (tm p21)) 0])
  (CC.seq (CC.cond (tm p23) CC.skip
  (CC.exit 2))
  (CC.seq (CC.block 3 (CC.seq (CC.run [s1 (some p24) (.mv (tm p22)) 0, s1 (some p25) (.idxAS 5 (tm p20) (tm p22)) 1, s1 (some p26) (.ldn 5 (tm p25)) 2, s1 (some p7) (.new 65 [(CV.bool false), (CV.int .u32 (nn 0)), (i6 (nn 0)), (i6 (nn 0)), (i6 (nn 0))]) 3, s1 (some p6) (.mv (tm p24)) 4, s1 none (.st 5 (tm p7) (tm p26)) 5])
  (CC.seq (CC.run [s1 (some p28) (.fldA 1 (tm p7)) 0, s1 (some p29) (.ldn 2 (tm p28)) 1, s1 (some p30) (.call (cn (CV.fn 49 [] [])) [(tm p29)]) 2, s1 (some p27) (.mv (tm p30)) 3, s1 (some p31) (.extr (tm p27) 0) 4, s1 (some p32) (.extr (tm p27) 1) 5, s1 (some p33) (.extr (tm p27) 2) 6, s1 (some p8) (.mv (tm p31)) 7, s1 (some p9) (.mv (tm p32)) 8, s1 (some p10) (.mv (tm p33)) 9])
  (CC.seq (CC.seq (CC.run [s1 (some p34) (.mv (tm p10)) 0, s1 (some p35) (.bin .neq (tm p34) (cn (i6 (nn 0)))) 1, s1 (some p36) (.mv (tm p35)) 2, ⟨(some p37), (.fldA 1 (tm p7)), (some (p36, false)), 3, true, true⟩, ⟨(some p38), (.fldA 1 (tm p37)), (some (p36, false)), 4, true, true⟩, ⟨(some p39), (.ld (tm p38)), (some (p36, false)), 5, true, true⟩, ⟨(some p40), (.mv (tm p4)), (some (p36, false)), 6, true, true⟩, ⟨(some p41), (.bin .gtr (tm p39) (tm p40)), (some (p36, false)), 7, true, true⟩, s1 (some p42) (.pick (tm p36) (cn (CV.bool true)) (tm p41)) 8, s1 (some p43) (.mv (tm p42)) 9, ⟨(some p44), (.fldA 3 (tm p7)), (some (p43, false)), 10, true, true⟩, ⟨(some p45), (.ld (tm p44)), (some (p43, false)), 11, true, true⟩, ⟨(some p46), (.mv (tm p4)), (some (p43, false)), 12, true, true⟩, ⟨(some p47), (.bin .gtr (tm p45) (tm p46)), (some (p43, false)), 13, true, true⟩, s1 (some p48) (.pick (tm p43) (cn (CV.bool true)) (tm p47)) 14, s1 (some p49) (.mv (tm p48)) 15, ⟨(some p50), (.fldA 4 (tm p7)), (some (p49, false)), 16, true, true⟩, ⟨(some p51), (.ld (tm p50)), (some (p49, false)), 17, true, true⟩, ⟨(some p52), (.mv (tm p4)), (some (p49, false)), 18, true, true⟩, ⟨(some p53), (.bin .lss (tm p51) (tm p52)), (some (p49, false)), 19, true, true⟩, s1 (some p54) (.pick (tm p49) (cn (CV.bool true)) (tm p53)) 20])
  (CC.cond (tm p54) (CC.exit 3)
  CC.skip))
  (CC.seq (CC.run [s1 (some p55) (.mv (tm p8)) 0, s1 (some p56) (.mv (tm p9)) 1, s1 (some p57) (.build [(CV.int .u32 (nn 0)), (CV.int .u32 (nn 0))] [(0, 1, (tm p55)), (1, 1, (tm p56))]) 2, s1 (some p58) (.bslice 90 2 1 [(CV.int .u32 (nn 0)), (CV.int .u32 (nn 0))] [(0, 2, (tm p57))]) 3, s1 (some p11) (.mv (tm p58)) 4])
  (CC.seq (CC.seq (CC.run [s1 (some p59) (.mv (tm p11)) 0, s1 (some p60) (.mv (tm p5)) 1, s1 (some p61) (.call (cn (CV.fn 50 [] [])) [(tm p59), (tm p60)]) 2, s1 (some p62) (.len false (tm p61)) 3, s1 (some p63) (.bin .gtr (tm p62) (cn (i6 (nn 0)))) 4])
  (CC.cond (tm p63) (CC.run [s1 (some p64) (.ld (tm p3)) 0, s1 (some p65) (.mv (tm p6)) 1, s1 (some p66) (.idxAS 1 (tm p64) (tm p65)) 2, s1 none (.st 1 (tm p66) (cn (CV.bool true))) 3])
  CC.skip))
  (CC.run [s1 (some p67) (.mv (tm p5)) 0, s1 (some p68) (.mv (tm p11)) 1, s1 (some p69) (.call (cn (CV.fn 51 [] [])) [(tm p67), (tm p68)]) 2, s1 (some p5) (.mv (tm p69)) 3])))))))
  (CC.run [s1 (some p70) (.bin .add (tm p22) (cn (i6 (nn 1)))) 0, s1 (some p22) (.mv (tm p70)) 1]))))))))))
  (CC.run [s1 (some p71) (.bin .add (tm p16) (cn (i6 (nn 1)))) 0, s1 (some p16) (.mv (tm p71)) 1])))))))
  (CC.seq (CC.run [s1 (some p72) (.ld (tm p3)) 0, s1 (some p73) (.len false (tm p72)) 1, s1 (some p74) (.mkfn 53 [] [(tm p3)]) 2, s1 (some p75) (.call (cn (CV.fn 52 [] [])) [(tm p73), (tm p74)]) 3, s1 (some p2) (.mv (tm p75)) 4])
  CC.ret)))), [CRes.tmp p2]⟩
theorem lit17_ok : fnO tys 17 Tryz.f17 = some lit17 := by kernel_rfl
noncomputable def lit18 : CFn :=
  ⟨18, 8, (CC.seq (CC.run [s1 (some p1) (.box 57 (tm p0)) 0, s1 (some p2) (.mv (cn CV.nils)) 1])
  (CC.seq (CC.run [s1 (some p3) (.fldA 1 (tm p1)) 0, s1 (some p4) (.ld (tm p3)) 1, s1 (some p5) (.len false (tm p4)) 2, s1 (some p6) (.mkfn 54 [] [(tm p1)]) 3, s1 (some p7) (.call (cn (CV.fn 52 [] [])) [(tm p5), (tm p6)]) 4, s1 (some p2) (.mv (tm p7)) 5])
  CC.ret)), [CRes.tmp p2]⟩
theorem lit18_ok : fnO tys 18 Tryz.f18 = some lit18 := by kernel_rfl
noncomputable def lit28 : CFn :=
  ⟨28, 24, (CC.seq (CC.run [s1 (some p2) (.mv (cn CV.nilp)) 0, s1 (some p3) (.mv (cn (i6 (nn 0)))) 1])
  (CC.seq (CC.seq (CC.run [s1 (some p6) (.mv (tm p0)) 0, s1 (some p7) (.bin .lss (tm p6) (cn (i6 (nn 0)))) 1, s1 (some p8) (.mv (tm p7)) 2, ⟨(some p9), (.mv (tm p0)), (some (p8, false)), 3, true, true⟩, ⟨(some p10), (.bin .gtr (tm p9) (cn (i6 (nn 4194304)))), (some (p8, false)), 4, true, true⟩, s1 (some p11) (.pick (tm p8) (cn (CV.bool true)) (tm p10)) 5])
  (CC.cond (tm p11) (CC.seq (CC.run [s1 (some p2) (.mv (cn CV.nilp)) 0, s1 (some p3) (.mv (cn (i6 (nn 1)))) 1])
  CC.ret)
  CC.skip))
  (CC.seq (CC.run [s1 (some p13) (.mv (tm p0)) 0, s1 (some p14) (.call (cn (CV.fn 89 [] [])) [(cn (i6 (nn 208))), (tm p13)]) 1, s1 (some p12) (.mv (tm p14)) 2, s1 (some p15) (.extr (tm p12) 0) 3, s1 (some p16) (.extr (tm p12) 1) 4, s1 (some p4) (.mv (tm p15)) 5, s1 (some p5) (.mv (tm p16)) 6])
  (CC.seq (CC.seq (CC.run [s1 (some p17) (.mv (tm p5)) 0, s1 (some p18) (.bin .neq (tm p17) (cn (i6 (nn 0)))) 1])
  (CC.cond (tm p18) (CC.seq (CC.run [s1 (some p19) (.mv (tm p5)) 0, s1 (some p2) (.mv (cn CV.nilp)) 1, s1 (some p3) (.mv (tm p19)) 2])
  CC.ret)
  CC.skip))
  (CC.seq (CC.run [s1 (some p20) (.mv (tm p4)) 0, s1 (some p21) .mkmap 1, s1 (some p22) (.build [CV.nilp, CV.nilm] [(0, 1, (tm p20)), (1, 1, (tm p21))]) 2, s1 (some p23) (.box 179 (tm p22)) 3, s1 (some p2) (.mv (tm p23)) 4, s1 (some p3) (.mv (cn (i6 (nn 0)))) 5])
  CC.ret))))), [CRes.tmp p2, CRes.tmp p3]⟩
theorem lit28_ok : fnO tys 28 Tryz.f28 = some lit28 := by kernel_rfl
noncomputable def lit29 : CFn :=
  ⟨29, 39, (CC.seq (CC.run [s1 (some p1) (.box 88 (tm p0)) 0, s1 (some p2) (.mv (cn CV.nils)) 1, s1 (some p3) (.mv (cn (i6 (nn 0)))) 2])
  (CC.seq (CC.run [s1 (some p12) (.call (cn (CV.fn 28 [] [])) [(cn (i6 (nn 4194304)))]) 0, s1 (some p11) (.mv (tm p12)) 1, s1 (some p13) (.extr (tm p11) 0) 2, s1 (some p14) (.extr (tm p11) 1) 3, s1 (some p4) (.mv (tm p13)) 4, s1 (some p5) (.mv (tm p14)) 5])
  (CC.seq (CC.run [s1 (some p16) (.mv (tm p4)) 0, s1 (some p17) (.ldn 2 (tm p1)) 1, s1 (some p18) (.call (cn (CV.fn 32 [] [])) [(tm p16), (tm p17)]) 2, s1 (some p15) (.mv (tm p18)) 3, s1 (some p19) (.extr (tm p15) 0) 4, s1 (some p20) (.extr (tm p15) 1) 5, s1 (some p6) (.mv (tm p19)) 6, s1 (some p7) (.mv (tm p20)) 7])
  (CC.seq (CC.seq (CC.run [s1 (some p21) (.mv (tm p7)) 0, s1 (some p22) (.bin .neq (tm p21) (cn (i6 (nn 0)))) 1])
  (CC.cond (tm p22) (CC.seq (CC.run [s1 (some p23) (.mv (tm p7)) 0, s1 (some p2) (.mv (cn CV.nils)) 1, s1 (some p3) (.mv (tm p23)) 2])
  CC.ret)
  CC.skip))
  (CC.seq (CC.run [s1 (some p8) (.mv (cn CV.nils)) 0])
  (CC.seq (CC.seq (CC.run [s1 (some p24) (.mv (tm p6)) 0, s1 (some p25) (.len false (tm p24)) 1, s1 (some p26) (.mv (cn (i6 (nn 0)))) 2])
  (CC.block 0 (CC.loop (CC.seq (CC.run [s1 (some p27) (.bin .lss (tm p26) (tm p25)) 0])
  (CC.seq (CC.cond (tm p27) CC.skip
  (CC.exit 0))
  (CC.seq (CC.block 1 (CC.seq (CC.run [s1 (some p28) (.mv (tm p26)) 0, s1 (some p29) (.idxAS 1 (tm p24) (tm p26)) 1, s1 (some p30) (.ld (tm p29)) 2, s1 (some p9) (.mv (tm p28)) 3, s1 (some p10) (.mv (tm p30)) 4])
  (CC.seq (CC.run [s1 (some p31) (.mv (tm p10)) 0, s1 (some p32) (.bin .eql (tm p31) (cn (i6 (nn 0)))) 1])
  (CC.cond (tm p32) (CC.run [s1 (some p33) (.mv (tm p8)) 0, s1 (some p34) (.mv (tm p9)) 1, s1 (some p35) (.bslice 3 1 1 [(i6 (nn 0))] [(0, 1, (tm p34))]) 2, s1 (some p36) (.app 3 1 8 (tm p33) (tm p35)) 3, s1 (some p8) (.mv (tm p36)) 4])
  CC.skip))))
  (CC.run [s1 (some p37) (.bin .add (tm p26) (cn (i6 (nn 1)))) 0, s1 (some p26) (.mv (tm p37)) 1])))))))
  (CC.seq (CC.run [s1 (some p38) (.mv (tm p8)) 0, s1 (some p2) (.mv (tm p38)) 1, s1 (some p3) (.mv (cn (i6 (nn 0)))) 2])
  CC.ret))))))), [CRes.tmp p2, CRes.tmp p3]⟩
theorem lit29_ok : fnO tys 29 Tryz.f29 = some lit29 := by kernel_rfl
noncomputable def lit31 : CFn :=
  ⟨31, 46, (CC.seq (CC.run [s1 (some p3) (.box 88 (tm p1)) 0, s1 (some p4) (.mv (cn (i6 (nn 0)))) 1, s1 (some p5) (.mv (cn (i6 (nn 0)))) 2])
  (CC.seq (CC.run [s1 (some p12) (.mv (tm p0)) 0, s1 (some p13) (.ldn 2 (tm p3)) 1, s1 (some p14) (.call (cn (CV.fn 32 [] [])) [(tm p12), (tm p13)]) 2, s1 (some p11) (.mv (tm p14)) 3, s1 (some p15) (.extr (tm p11) 0) 4, s1 (some p16) (.extr (tm p11) 1) 5, s1 (some p6) (.mv (tm p15)) 6, s1 (some p7) (.mv (tm p16)) 7])
  (CC.seq (CC.seq (CC.run [s1 (some p17) (.mv (tm p7)) 0, s1 (some p18) (.bin .neq (tm p17) (cn (i6 (nn 0)))) 1])
  (CC.cond (tm p18) (CC.seq (CC.run [s1 (some p19) (.mv (tm p7)) 0, s1 (some p4) (.mv (cn (i6 (nn 0)))) 1, s1 (some p5) (.mv (tm p19)) 2])
  CC.ret)
  CC.skip))
  (CC.seq (CC.run [s1 (some p8) (.mv (cn (i6 (nn 0)))) 0])
  (CC.seq (CC.seq (CC.run [s1 (some p20) (.mv (tm p6)) 0, s1 (some p21) (.len false (tm p20)) 1, s1 (some p22) (.mv (cn (i6 (nn 0)))) 2])
  (CC.block 0 (CC.loop (CC.seq (CC.run [s1 (some p23) (.bin .lss (tm p22) (tm p21)) 0])
  (CC.seq (CC.cond (tm p23) CC.skip
  (CC.exit 0))
  (CC.seq (CC.block 1 (CC.seq (CC.run [s1 (some p24) (.mv (tm p22)) 0, s1 (some p25) (.idxAS 1 (tm p20) (tm p22)) 1, s1 (some p26) (.ld (tm p25)) 2, s1 (some p9) (.mv (tm p24)) 3, s1 (some p10) (.mv (tm p26)) 4])
  (CC.seq (CC.seq (CC.run [s1 (some p27) (.fldA 1 (tm p3)) 0, s1 (some p28) (.ld (tm p27)) 1, s1 (some p29) (.mv (tm p9)) 2, s1 (some p30) (.idxAS 10 (tm p28) (tm p29)) 3, s1 (some p31) (.fldA 0 (tm p30)) 4, s1 (some p32) (.ld (tm p31)) 5, s1 (some p33) (.not (tm p32)) 6])
  (CC.cond (tm p33) (CC.exit 1)
  CC.skip))
  (CC.seq (CC.run [s1 (some p35) (.mv (tm p0)) 0, s1 (some p36) (.mv (tm p8)) 1, s1 (some p37) (.mv (tm p10)) 2, s1 (some p38) (.call (cn (CV.fn 47 [] [])) [(tm p35), (tm p36), (tm p37)]) 3, s1 (some p34) (.mv (tm p38)) 4, s1 (some p39) (.extr (tm p34) 0) 5, s1 (some p40) (.extr (tm p34) 1) 6, s1 (some p8) (.mv (tm p39)) 7, s1 (some p7) (.mv (tm p40)) 8])
  (CC.seq (CC.run [s1 (some p41) (.mv (tm p7)) 0, s1 (some p42) (.bin .neq (tm p41) (cn (i6 (nn 0)))) 1])
  (CC.cond (tm p42) (CC.seq (CC.run [s1 (some p43) (.mv (tm p7)) 0, s1 (some p4) (.mv (cn (i6 (nn 0)))) 1, s1 (some p5) (.mv (tm p43)) 2])
  CC.ret)
  CC.skip))))))
  (CC.run [s1 (some p44) (.bin .add (tm p22) (cn (i6 (nn 1)))) 0, s1 (some p22) (.mv (tm p44)) 1])))))))
  (CC.seq (CC.run [s1 (some p45) (.mv (tm p8)) 0, s1 (some p4) (.mv (tm p45)) 1, s1 (some p5) (.mv (cn (i6 (nn 0)))) 2])
  CC.ret)))))), [CRes.tmp p4, CRes.tmp p5]⟩
theorem lit31_ok : fnO tys 31 Tryz.f31 = some lit31 := by kernel_rfl
noncomputable def lit32 : CFn :=
  ⟨32, 77, (CC.seq (CC.run [s1 (some p3) (.box 88 (tm p1)) 0, s1 (some p4) (.mv (cn CV.nils)) 1, s1 (some p5) (.mv (cn (i6 (nn 0)))) 2])
  (CC.seq (CC.seq (CC.run [s1 (some p16) (.mv (tm p0)) 0, s1 (some p17) (.eqs false EK.ptr (tm p16) (cn CV.nilp)) 1])
  (CC.cond (tm p17) (CC.seq (CC.run [s1 (some p4) (.mv (cn CV.nils)) 0, s1 (some p5) (.mv (cn (i6 (nn 2)))) 1])
  CC.ret)
  CC.skip))
  (CC.seq (CC.seq (CC.run [s1 (some p18) (.ldn 2 (tm p3)) 0, s1 (some p19) (.call (cn (CV.fn 44 [] [])) [(tm p18)]) 1, s1 (some p6) (.mv (tm p19)) 2])
  (CC.seq (CC.run [s1 (some p20) (.mv (tm p6)) 0, s1 (some p21) (.bin .neq (tm p20) (cn (i6 (nn 0)))) 1])
  (CC.cond (tm p21) (CC.seq (CC.run [s1 (some p22) (.mv (tm p6)) 0, s1 (some p4) (.mv (cn CV.nils)) 1, s1 (some p5) (.mv (tm p22)) 2])
  CC.ret)
  CC.skip)))
  (CC.seq (CC.run [s1 (some p7) (.mv (cn (i6 (nn 1)))) 0])
  (CC.seq (CC.run [s1 (some p8) (.mv (cn CV.nils)) 0])
  (CC.seq (CC.run [s1 (some p9) (.mv (cn CV.nils)) 0])
  (CC.seq (CC.seq (CC.run [s1 (some p23) (.fldA 1 (tm p3)) 0, s1 (some p24) (.ld (tm p23)) 1, s1 (some p25) (.len false (tm p24)) 2, s1 (some p26) (.mv (cn (i6 (nn 0)))) 3])
  (CC.block 0 (CC.loop (CC.seq (CC.run [s1 (some p27) (.bin .lss (tm p26) (tm p25)) 0])
  (CC.seq (CC.cond (tm p27) CC.skip
  (CC.exit 0))
  (CC.seq (CC.block 1 (CC.seq (CC.run [s1 (some p28) (.idxAS 10 (tm p24) (tm p26)) 0, s1 (some p29) (.ldn 10 (tm p28)) 1, s1 (some p11) (.new 92 [(CV.bool false), (i6 (nn 0)), (CV.int .u32 (nn 0)), (i6 (nn 0)), (CV.int .u32 (nn 0)), (i6 (nn 0)), (CV.int .u32 (nn 0)), (CV.int .u32 (nn 0)), (CV.int .u32 (nn 0)), (CV.int .u32 (nn 0))]) 2, s1 none (.st 10 (tm p11) (tm p29)) 3])
  (CC.seq (CC.run [s1 (some p30) (.ldn 10 (tm p11)) 0, s1 (some p12) (.new 92 [(CV.bool false), (i6 (nn 0)), (CV.int .u32 (nn 0)), (i6 (nn 0)), (CV.int .u32 (nn 0)), (i6 (nn 0)), (CV.int .u32 (nn 0)), (CV.int .u32 (nn 0)), (CV.int .u32 (nn 0)), (CV.int .u32 (nn 0))]) 1, s1 none (.st 10 (tm p12) (tm p30)) 2])
  (CC.seq (CC.run [s1 (some p31) (.fldA 0 (tm p12)) 0, s1 none (.st 1 (tm p31) (cn (CV.bool false))) 1])
  (CC.seq (CC.seq (CC.run [s1 (some p32) (.mv (tm p9)) 0, s1 (some p33) (.mkfn 92 [] [(tm p12)]) 1, s1 (some p34) (.call (cn (CV.fn 91 [] [])) [(tm p32), (tm p33)]) 2])
  (CC.cond (tm p34) (CC.seq (CC.run [s1 (some p35) (.mv (tm p8)) 0, s1 (some p36) (.bslice 3 1 1 [(i6 (nn 0))] [(0, 1, (cn (i6 (nn 0))))]) 1, s1 (some p37) (.app 3 1 8 (tm p35) (tm p36)) 2, s1 (some p8) (.mv (tm p37)) 3])
  (CC.exit 1))
  CC.skip))
  (CC.seq (CC.run [s1 (some p38) (.mv (tm p9)) 0, s1 (some p39) (.ldn 10 (tm p12)) 1, s1 (some p40) (.bslice 92 10 1 [(CV.bool false), (i6 (nn 0)), (CV.int .u32 (nn 0)), (i6 (nn 0)), (CV.int .u32 (nn 0)), (i6 (nn 0)), (CV.int .u32 (nn 0)), (CV.int .u32 (nn 0)), (CV.int .u32 (nn 0)), (CV.int .u32 (nn 0))] [(0, 10, (tm p39))]) 2, s1 (some p41) (.app 92 10 64 (tm p38) (tm p40)) 3, s1 (some p9) (.mv (tm p41)) 4])
  (CC.seq (CC.run [s1 (some p43) (.mv (tm p0)) 0, s1 (some p44) (.ldn 10 (tm p11)) 1, s1 (some p45) (.call (cn (CV.fn 93 [] [])) [(tm p43), (tm p44)]) 2, s1 (some p42) (.mv (tm p45)) 3, s1 (some p46) (.extr (tm p42) 0) 4, s1 (some p47) (.extr (tm p42) 1) 5, s1 (some p13) (.mv (tm p46)) 6, s1 (some p14) (.mv (tm p47)) 7])
  (CC.seq (CC.seq (CC.run [s1 (some p48) (.mv (tm p14)) 0, s1 (some p49) (.bin .neq (tm p48) (cn (i6 (nn 0)))) 1])
  (CC.cond (tm p49) (CC.seq (CC.run [s1 (some p50) (.mv (tm p14)) 0, s1 (some p4) (.mv (cn CV.nils)) 1, s1 (some p5) (.mv (tm p50)) 2])
  CC.ret)
  CC.skip))
  (CC.seq (CC.run [s1 (some p52) (.mv (tm p0)) 0, s1 (some p53) (.mv (tm p7)) 1, s1 (some p54) (.mv (tm p13)) 2, s1 (some p55) (.call (cn (CV.fn 94 [] [])) [(tm p52), (tm p53), (tm p54)]) 3, s1 (some p51) (.mv (tm p55)) 4, s1 (some p56) (.extr (tm p51) 0) 5, s1 (some p57) (.extr (tm p51) 1) 6, s1 (some p15) (.mv (tm p56)) 7, s1 (some p14) (.mv (tm p57)) 8])
  (CC.seq (CC.seq (CC.run [s1 (some p58) (.mv (tm p14)) 0, s1 (some p59) (.bin .neq (tm p58) (cn (i6 (nn 0)))) 1])
  (CC.cond (tm p59) (CC.seq (CC.run [s1 (some p60) (.mv (tm p14)) 0, s1 (some p4) (.mv (cn CV.nils)) 1, s1 (some p5) (.mv (tm p60)) 2])
  CC.ret)
  CC.skip))
  (CC.seq (CC.seq (CC.run [s1 (some p62) (.mv (tm p0)) 0, s1 (some p63) (.mv (tm p7)) 1, s1 (some p64) (.mv (tm p13)) 2, s1 (some p65) (.call (cn (CV.fn 46 [] [])) [(tm p62), (tm p63), (tm p64)]) 3, s1 (some p61) (.mv (tm p65)) 4, s1 (some p66) (.extr (tm p61) 0) 5, s1 (some p67) (.extr (tm p61) 1) 6, s1 (some p7) (.mv (tm p66)) 7, s1 (some p14) (.mv (tm p67)) 8])
  (CC.seq (CC.run [s1 (some p68) (.mv (tm p14)) 0, s1 (some p69) (.bin .neq (tm p68) (cn (i6 (nn 0)))) 1])
  (CC.cond (tm p69) (CC.seq (CC.run [s1 (some p70) (.mv (tm p14)) 0, s1 (some p4) (.mv (cn CV.nils)) 1, s1 (some p5) (.mv (tm p70)) 2])
  CC.ret)
  CC.skip)))
  (CC.run [s1 (some p71) (.mv (tm p8)) 0, s1 (some p72) (.mv (tm p15)) 1, s1 (some p73) (.bslice 3 1 1 [(i6 (nn 0))] [(0, 1, (tm p72))]) 2, s1 (some p74) (.app 3 1 8 (tm p71) (tm p73)) 3, s1 (some p8) (.mv (tm p74)) 4]))))))))))))
  (CC.run [s1 (some p75) (.bin .add (tm p26) (cn (i6 (nn 1)))) 0, s1 (some p26) (.mv (tm p75)) 1])))))))
  (CC.seq (CC.run [s1 (some p76) (.mv (tm p8)) 0, s1 (some p4) (.mv (tm p76)) 1, s1 (some p5) (.mv (cn (i6 (nn 0)))) 2])
  CC.ret)))))))), [CRes.tmp p4, CRes.tmp p5]⟩
theorem lit32_ok : fnO tys 32 Tryz.f32 = some lit32 := by kernel_rfl
noncomputable def lit37 : CFn :=
  ⟨37, 39, (CC.seq (CC.run [s1 (some p2) (.box 33 (tm p0)) 0, s1 (some p3) (.box 95 (tm p1)) 1, s1 (some p4) (.mv (cn CV.nils)) 2])
  (CC.seq (CC.run [s1 (some p11) (.fldA 1 (tm p3)) 0, s1 (some p12) (.ld (tm p11)) 1, s1 (some p13) (.len false (tm p12)) 2, s1 (some p5) (.new 3 [(i6 (nn 0))]) 3, s1 none (.st 1 (tm p5) (tm p13)) 4])
  (CC.seq (CC.run [s1 (some p14) (.ld (tm p5)) 0, s1 (some p15) (.mksl 4 1 1 [(CV.bool false)] (tm p14) (tm p14)) 1, s1 (some p6) (.new 61 [CV.nils]) 2, s1 none (.st 1 (tm p6) (tm p15)) 3])
  (CC.seq (CC.run [s1 (some p16) (.ld (tm p5)) 0, s1 (some p17) (.mksl 4 1 1 [(CV.bool false)] (tm p16) (tm p16)) 1, s1 (some p7) (.new 61 [CV.nils]) 2, s1 none (.st 1 (tm p7) (tm p17)) 3])
  (CC.seq (CC.seq (CC.run [s1 (some p18) (.fldA 1 (tm p3)) 0, s1 (some p19) (.ld (tm p18)) 1, s1 (some p20) (.len false (tm p19)) 2, s1 (some p21) (.mv (cn (i6 (nn 0)))) 3])
  (CC.block 0 (CC.loop (CC.seq (CC.run [s1 (some p22) (.bin .lss (tm p21) (tm p20)) 0])
  (CC.seq (CC.cond (tm p22) CC.skip
  (CC.exit 0))
  (CC.seq (CC.block 1 (CC.seq (CC.run [s1 (some p23) (.mv (tm p21)) 0, s1 (some p24) (.idxAS 15 (tm p19) (tm p21)) 1, s1 (some p25) (.ldn 15 (tm p24)) 2, s1 (some p9) (.new 97 [(i6 (nn 0)), (CV.int .u8 (nn 0)), (CV.str (bs [])), (CV.str (bs [])), (i6 (nn 0)), (i6 (nn 0)), (i6 (nn 0)), (i6 (nn 0)), (i6 (nn 0)), (i6 (nn 0)), CV.nils, (CV.bool false), CV.nils, (CV.int .u32 (nn 0)), (i6 (nn 0))]) 3, s1 (some p8) (.mv (tm p23)) 4, s1 none (.st 15 (tm p9) (tm p25)) 5])
  (CC.draw [] [⟨(some p26), (.ld (tm p7)), none, 0, false, false⟩, ⟨(some p27), (.mv (tm p8)), none, 1, false, false⟩, ⟨(some p28), (.ldn 12 (tm p2)), none, 2, false, true⟩, s1 (some p29) (.ldn 15 (tm p9)) 3, s1 (some p30) (.call (cn (CV.fn 102 [] [])) [(tm p28), (tm p29)]) 4, s1 (some p31) (.idxAS 1 (tm p26) (tm p27)) 5, s1 none (.st 1 (tm p31) (tm p30)) 6])))
  (CC.run [s1 (some p32) (.bin .add (tm p21) (cn (i6 (nn 1)))) 0, s1 (some p21) (.mv (tm p32)) 1])))))))
  (CC.seq (CC.run [s1 (some p10) (.new 196 [CV.nilf]) 0])
  (CC.seq (CC.run [s1 (some p33) (.mkfn 103 [] [(tm p5), (tm p6), (tm p3), (tm p10), (tm p7)]) 0, s1 none (.st 1 (tm p10) (tm p33)) 1])
  (CC.seq (CC.run [s1 (some p34) (.ld (tm p10)) 0, s1 (some p35) (.call (tm p34) [(cn (i6 (nn 0)))]) 1])
  (CC.seq (CC.run [s1 (some p36) (.ld (tm p5)) 0, s1 (some p37) (.mkfn 105 [] [(tm p6), (tm p7)]) 1, s1 (some p38) (.call (cn (CV.fn 52 [] [])) [(tm p36), (tm p37)]) 2, s1 (some p4) (.mv (tm p38)) 3])
  CC.ret))))))))), [CRes.tmp p4]⟩
theorem lit37_ok : fnO tys 37 Tryz.f37 = some lit37 := by kernel_rfl
noncomputable def lit39 : CFn :=
  ⟨39, 164, (CC.seq (CC.run [s1 (some p1) (.box 33 (tm p0)) 0, s1 (some p2) (.mv (cn CV.nils)) 1, s1 (some p3) (.mv (cn (i6 (nn 0)))) 2])
  (CC.seq (CC.run [s1 (some p4) (.new 114 [CV.nils]) 0])
  (CC.seq (CC.run [s1 (some p28) (.mkfn 108 [] [(tm p4)]) 0, s1 (some p5) (.new 199 [CV.nilf]) 1, s1 none (.st 1 (tm p5) (tm p28)) 2])
  (CC.seq (CC.seq (CC.run [s1 (some p29) (.fldA 4 (tm p1)) 0, s1 (some p30) (.ld (tm p29)) 1, s1 (some p31) (.len false (tm p30)) 2, s1 (some p32) (.mv (cn (i6 (nn 0)))) 3])
  (CC.block 0 (CC.loop (CC.seq (CC.run [s1 (some p33) (.bin .lss (tm p32) (tm p31)) 0])
  (CC.seq (CC.cond (tm p33) CC.skip
  (CC.exit 0))
  (CC.seq (CC.block 1 (CC.seq (CC.run [s1 (some p34) (.idxAS 2 (tm p30) (tm p32)) 0, s1 (some p35) (.ldn 2 (tm p34)) 1, s1 (some p7) (.new 88 [(CV.str (bs [])), CV.nils]) 2, s1 none (.st 2 (tm p7) (tm p35)) 3])
  (CC.seq (CC.run [s1 (some p37) (.ldn 2 (tm p7)) 0, s1 (some p38) (.call (cn (CV.fn 29 [] [])) [(tm p37)]) 1, s1 (some p36) (.mv (tm p38)) 2, s1 (some p39) (.extr (tm p36) 0) 3, s1 (some p40) (.extr (tm p36) 1) 4, s1 (some p8) (.mv (tm p39)) 5, s1 (some p9) (.mv (tm p40)) 6])
  (CC.seq (CC.seq (CC.run [s1 (some p41) (.mv (tm p9)) 0, s1 (some p42) (.bin .neq (tm p41) (cn (i6 (nn 0)))) 1])
  (CC.cond (tm p42) (CC.seq (CC.run [s1 (some p43) (.mv (tm p9)) 0, s1 (some p2) (.mv (cn CV.nils)) 1, s1 (some p3) (.mv (tm p43)) 2])
  CC.ret)
  CC.skip))
  (CC.run [s1 (some p44) (.ld (tm p5)) 0, s1 (some p45) (.fldA 0 (tm p7)) 1, s1 (some p46) (.ld (tm p45)) 2, s1 (some p47) (.mv (tm p8)) 3, s1 (some p48) (.call (tm p44) [(cn (i6 (nn 1))), (tm p46), (tm p47)]) 4])))))
  (CC.run [s1 (some p49) (.bin .add (tm p32) (cn (i6 (nn 1)))) 0, s1 (some p32) (.mv (tm p49)) 1])))))))
  (CC.seq (CC.seq (CC.run [s1 (some p50) (.fldA 7 (tm p1)) 0, s1 (some p51) (.ld (tm p50)) 1, s1 (some p52) (.len false (tm p51)) 2, s1 (some p53) (.mv (cn (i6 (nn 0)))) 3])
  (CC.block 2 (CC.loop (CC.seq (CC.run [s1 (some p54) (.bin .lss (tm p53) (tm p52)) 0])
  (CC.seq (CC.cond (tm p54) CC.skip
  (CC.exit 2))
  (CC.seq (CC.block 3 (CC.seq (CC.run [s1 (some p55) (.idxAS 2 (tm p51) (tm p53)) 0, s1 (some p56) (.ldn 2 (tm p55)) 1, s1 (some p11) (.new 54 [(CV.str (bs [])), CV.nils]) 2, s1 none (.st 2 (tm p11) (tm p56)) 3])
  (CC.draw [] [⟨(some p57), (.ld (tm p5)), none, 0, false, false⟩, ⟨(some p58), (.fldA 0 (tm p11)), none, 1, false, false⟩, ⟨(some p59), (.ld (tm p58)), none, 2, false, false⟩, s1 (some p60) (.ldn 2 (tm p11)) 3, s1 (some p61) (.call (cn (CV.fn 17 [] [])) [(tm p60)]) 4, s1 (some p62) (.call (tm p57) [(cn (i6 (nn 2))), (tm p59), (tm p61)]) 5])))
  (CC.run [s1 (some p63) (.bin .add (tm p53) (cn (i6 (nn 1)))) 0, s1 (some p53) (.mv (tm p63)) 1])))))))
  (CC.seq (CC.seq (CC.run [s1 (some p64) (.fldA 8 (tm p1)) 0, s1 (some p65) (.ld (tm p64)) 1, s1 (some p66) (.len false (tm p65)) 2, s1 (some p67) (.mv (cn (i6 (nn 0)))) 3])
  (CC.block 4 (CC.loop (CC.seq (CC.run [s1 (some p68) (.bin .lss (tm p67) (tm p66)) 0])
  (CC.seq (CC.cond (tm p68) CC.skip
  (CC.exit 4))
  (CC.seq (CC.block 5 (CC.seq (CC.run [s1 (some p69) (.idxAS 2 (tm p65) (tm p67)) 0, s1 (some p70) (.ldn 2 (tm p69)) 1, s1 (some p13) (.new 57 [(CV.str (bs [])), CV.nils]) 2, s1 none (.st 2 (tm p13) (tm p70)) 3])
  (CC.draw [] [⟨(some p71), (.ld (tm p5)), none, 0, false, false⟩, ⟨(some p72), (.fldA 0 (tm p13)), none, 1, false, false⟩, ⟨(some p73), (.ld (tm p72)), none, 2, false, false⟩, s1 (some p74) (.ldn 2 (tm p13)) 3, s1 (some p75) (.call (cn (CV.fn 18 [] [])) [(tm p74)]) 4, s1 (some p76) (.call (tm p71) [(cn (i6 (nn 3))), (tm p73), (tm p75)]) 5])))
  (CC.run [s1 (some p77) (.bin .add (tm p67) (cn (i6 (nn 1)))) 0, s1 (some p67) (.mv (tm p77)) 1])))))))
  (CC.seq (CC.seq (CC.run [s1 (some p78) (.fldA 9 (tm p1)) 0, s1 (some p79) (.ld (tm p78)) 1, s1 (some p80) (.len false (tm p79)) 2, s1 (some p81) (.mv (cn (i6 (nn 0)))) 3])
  (CC.block 6 (CC.loop (CC.seq (CC.run [s1 (some p82) (.bin .lss (tm p81) (tm p80)) 0])
  (CC.seq (CC.cond (tm p82) CC.skip
  (CC.exit 6))
  (CC.seq (CC.block 7 (CC.seq (CC.run [s1 (some p83) (.idxAS 3 (tm p79) (tm p81)) 0, s1 (some p84) (.ldn 3 (tm p83)) 1, s1 (some p15) (.new 95 [(CV.str (bs [])), CV.nils, (CV.bool false)]) 2, s1 none (.st 3 (tm p15) (tm p84)) 3])
  (CC.draw [] [⟨(some p85), (.ld (tm p5)), none, 0, false, false⟩, ⟨(some p86), (.fldA 0 (tm p15)), none, 1, false, false⟩, ⟨(some p87), (.ld (tm p86)), none, 2, false, false⟩, ⟨(some p88), (.ldn 12 (tm p1)), none, 3, false, true⟩, s1 (some p89) (.ldn 3 (tm p15)) 4, s1 (some p90) (.call (cn (CV.fn 37 [] [])) [(tm p88), (tm p89)]) 5, s1 (some p91) (.call (tm p85) [(cn (i6 (nn 4))), (tm p87), (tm p90)]) 6])))
  (CC.run [s1 (some p92) (.bin .add (tm p81) (cn (i6 (nn 1)))) 0, s1 (some p81) (.mv (tm p92)) 1])))))))
  (CC.seq (CC.run [s1 (some p94) (.ldn 12 (tm p1)) 0, s1 (some p95) (.call (cn (CV.fn 14 [] [])) [(tm p94)]) 1, s1 (some p93) (.mv (tm p95)) 2, s1 (some p96) (.extr (tm p93) 0) 3, s1 (some p97) (.extr (tm p93) 1) 4, s1 (some p16) (.mv (tm p96)) 5, s1 (some p17) (.mv (tm p97)) 6])
  (CC.seq (CC.seq (CC.run [s1 (some p98) (.mv (tm p17)) 0, s1 (some p99) (.bin .neq (tm p98) (cn (i6 (nn 0)))) 1])
  (CC.cond (tm p99) (CC.seq (CC.run [s1 (some p100) (.mv (tm p17)) 0, s1 (some p2) (.mv (cn CV.nils)) 1, s1 (some p3) (.mv (tm p100)) 2])
  CC.ret)
  CC.skip))
  (CC.seq (CC.run [s1 (some p101) (.ld (tm p5)) 0, s1 (some p102) (.mv (tm p16)) 1, s1 (some p103) (.call (tm p101) [(cn (i6 (nn 5))), (cn (CV.str (bs []))), (tm p102)]) 2])
  (CC.seq (CC.run [s1 (some p104) (.ldn 12 (tm p1)) 0, s1 (some p105) (.call (cn (CV.fn 109 [] [])) [(tm p104)]) 1, s1 (some p18) (.new 202 [CV.nilm, CV.nilm, CV.nilm, CV.nilm]) 2, s1 none (.st 4 (tm p18) (tm p105)) 3])
  (CC.seq (CC.run [s1 (some p106) (.mkfn 110 [] [(tm p5)]) 0, s1 (some p19) (.mv (tm p106)) 1])
  (CC.seq (CC.seq (CC.run [s1 (some p107) (.fldA 4 (tm p1)) 0, s1 (some p108) (.ld (tm p107)) 1, s1 (some p109) (.len false (tm p108)) 2, s1 (some p110) (.mv (cn (i6 (nn 0)))) 3])
  (CC.block 8 (CC.loop (CC.seq (CC.run [s1 (some p111) (.bin .lss (tm p110) (tm p109)) 0])
  (CC.seq (CC.cond (tm p111) CC.skip
  (CC.exit 8))
  (CC.seq (CC.block 9 (CC.seq (CC.run [s1 (some p112) (.idxAS 2 (tm p108) (tm p110)) 0, s1 (some p113) (.ldn 2 (tm p112)) 1, s1 (some p21) (.new 88 [(CV.str (bs [])), CV.nils]) 2, s1 none (.st 2 (tm p21) (tm p113)) 3])
  (CC.run [s1 (some p114) (.mv (tm p19)) 0, s1 (some p115) (.fldA 0 (tm p18)) 1, s1 (some p116) (.ld (tm p115)) 2, s1 (some p117) (.fldA 0 (tm p21)) 3, s1 (some p118) (.ld (tm p117)) 4, s1 (some p119) (.call (tm p114) [(cn (i6 (nn 6))), (tm p116), (tm p118)]) 5])))
  (CC.run [s1 (some p120) (.bin .add (tm p110) (cn (i6 (nn 1)))) 0, s1 (some p110) (.mv (tm p120)) 1])))))))
  (CC.seq (CC.seq (CC.run [s1 (some p121) (.fldA 7 (tm p1)) 0, s1 (some p122) (.ld (tm p121)) 1, s1 (some p123) (.len false (tm p122)) 2, s1 (some p124) (.mv (cn (i6 (nn 0)))) 3])
  (CC.block 10 (CC.loop (CC.seq (CC.run [s1 (some p125) (.bin .lss (tm p124) (tm p123)) 0])
  (CC.seq (CC.cond (tm p125) CC.skip
  (CC.exit 10))
  (CC.seq (CC.block 11 (CC.seq (CC.run [s1 (some p126) (.idxAS 2 (tm p122) (tm p124)) 0, s1 (some p127) (.ldn 2 (tm p126)) 1, s1 (some p23) (.new 54 [(CV.str (bs [])), CV.nils]) 2, s1 none (.st 2 (tm p23) (tm p127)) 3])
  (CC.run [s1 (some p128) (.mv (tm p19)) 0, s1 (some p129) (.fldA 1 (tm p18)) 1, s1 (some p130) (.ld (tm p129)) 2, s1 (some p131) (.fldA 0 (tm p23)) 3, s1 (some p132) (.ld (tm p131)) 4, s1 (some p133) (.call (tm p128) [(cn (i6 (nn 7))), (tm p130), (tm p132)]) 5])))
  (CC.run [s1 (some p134) (.bin .add (tm p124) (cn (i6 (nn 1)))) 0, s1 (some p124) (.mv (tm p134)) 1])))))))
  (CC.seq (CC.seq (CC.run [s1 (some p135) (.fldA 8 (tm p1)) 0, s1 (some p136) (.ld (tm p135)) 1, s1 (some p137) (.len false (tm p136)) 2, s1 (some p138) (.mv (cn (i6 (nn 0)))) 3])
  (CC.block 12 (CC.loop (CC.seq (CC.run [s1 (some p139) (.bin .lss (tm p138) (tm p137)) 0])
  (CC.seq (CC.cond (tm p139) CC.skip
  (CC.exit 12))
  (CC.seq (CC.block 13 (CC.seq (CC.run [s1 (some p140) (.idxAS 2 (tm p136) (tm p138)) 0, s1 (some p141) (.ldn 2 (tm p140)) 1, s1 (some p25) (.new 57 [(CV.str (bs [])), CV.nils]) 2, s1 none (.st 2 (tm p25) (tm p141)) 3])
  (CC.run [s1 (some p142) (.mv (tm p19)) 0, s1 (some p143) (.fldA 2 (tm p18)) 1, s1 (some p144) (.ld (tm p143)) 2, s1 (some p145) (.fldA 0 (tm p25)) 3, s1 (some p146) (.ld (tm p145)) 4, s1 (some p147) (.call (tm p142) [(cn (i6 (nn 8))), (tm p144), (tm p146)]) 5])))
  (CC.run [s1 (some p148) (.bin .add (tm p138) (cn (i6 (nn 1)))) 0, s1 (some p138) (.mv (tm p148)) 1])))))))
  (CC.seq (CC.seq (CC.run [s1 (some p149) (.fldA 9 (tm p1)) 0, s1 (some p150) (.ld (tm p149)) 1, s1 (some p151) (.len false (tm p150)) 2, s1 (some p152) (.mv (cn (i6 (nn 0)))) 3])
  (CC.block 14 (CC.loop (CC.seq (CC.run [s1 (some p153) (.bin .lss (tm p152) (tm p151)) 0])
  (CC.seq (CC.cond (tm p153) CC.skip
  (CC.exit 14))
  (CC.seq (CC.block 15 (CC.seq (CC.run [s1 (some p154) (.idxAS 3 (tm p150) (tm p152)) 0, s1 (some p155) (.ldn 3 (tm p154)) 1, s1 (some p27) (.new 95 [(CV.str (bs [])), CV.nils, (CV.bool false)]) 2, s1 none (.st 3 (tm p27) (tm p155)) 3])
  (CC.run [s1 (some p156) (.mv (tm p19)) 0, s1 (some p157) (.fldA 3 (tm p18)) 1, s1 (some p158) (.ld (tm p157)) 2, s1 (some p159) (.fldA 0 (tm p27)) 3, s1 (some p160) (.ld (tm p159)) 4, s1 (some p161) (.call (tm p156) [(cn (i6 (nn 9))), (tm p158), (tm p160)]) 5])))
  (CC.run [s1 (some p162) (.bin .add (tm p152) (cn (i6 (nn 1)))) 0, s1 (some p152) (.mv (tm p162)) 1])))))))
  (CC.seq (CC.run [s1 (some p163) (.ld (tm p4)) 0, s1 (some p2) (.mv (tm p163)) 1, s1 (some p3) (.mv (cn (i6 (nn 0)))) 2])
  CC.ret))))))))))))))))), [CRes.tmp p2, CRes.tmp p3]⟩
theorem lit39_ok : fnO tys 39 Tryz.f39 = some lit39 := by kernel_rfl
noncomputable def lit44 : CFn :=
  ⟨44, 12, (CC.seq (CC.run [s1 (some p1) (.box 88 (tm p0)) 0, s1 (some p2) (.mv (cn (i6 (nn 0)))) 1])
  (CC.seq (CC.seq (CC.run [s1 (some p3) (.fldA 1 (tm p1)) 0, s1 (some p4) (.ld (tm p3)) 1, s1 (some p5) (.len false (tm p4)) 2, s1 (some p6) (.bin .gtr (tm p5) (cn (i6 (nn 256)))) 3, s1 (some p7) (.mv (tm p6)) 4, ⟨(some p8), (.fldA 1 (tm p1)), (some (p7, false)), 5, true, true⟩, ⟨(some p9), (.ld (tm p8)), (some (p7, false)), 6, true, true⟩, ⟨(some p10), (.call (cn (CV.fn 91 [] [])) [(tm p9), (cn (CV.fn 115 [] []))]), (some (p7, false)), 7, true, true⟩, s1 (some p11) (.pick (tm p7) (cn (CV.bool true)) (tm p10)) 8])
  (CC.cond (tm p11) (CC.seq (CC.run [s1 (some p2) (.mv (cn (i6 (nn 121)))) 0])
  CC.ret)
  CC.skip))
  (CC.seq (CC.run [s1 (some p2) (.mv (cn (i6 (nn 0)))) 0])
  CC.ret))), [CRes.tmp p2]⟩
theorem lit44_ok : fnO tys 44 Tryz.f44 = some lit44 := by kernel_rfl
noncomputable def lit45 : CFn :=
  ⟨45, 26, (CC.seq (CC.run [s1 (some p4) (.new 88 [(CV.str (bs [])), CV.nils]) 0, s1 (some p5) (.mv (cn (CV.bool false))) 1])
  (CC.seq (CC.seq (CC.run [s1 (some p8) (.mv (tm p0)) 0, s1 (some p9) (.len false (tm p8)) 1, s1 (some p10) (.mv (cn (i6 (nn 0)))) 2])
  (CC.block 0 (CC.loop (CC.seq (CC.run [s1 (some p11) (.bin .lss (tm p10) (tm p9)) 0])
  (CC.seq (CC.cond (tm p11) CC.skip
  (CC.exit 0))
  (CC.seq (CC.block 1 (CC.seq (CC.run [s1 (some p12) (.idxAS 2 (tm p8) (tm p10)) 0, s1 (some p13) (.ldn 2 (tm p12)) 1, s1 (some p7) (.new 88 [(CV.str (bs [])), CV.nils]) 2, s1 none (.st 2 (tm p7) (tm p13)) 3])
  (CC.seq (CC.run [s1 (some p14) (.fldA 0 (tm p7)) 0, s1 (some p15) (.ld (tm p14)) 1, s1 (some p16) (.mv (tm p1)) 2, s1 (some p17) (.bin .eql (tm p15) (tm p16)) 3])
  (CC.cond (tm p17) (CC.seq (CC.draw [] [⟨(some p18), (.fldA 0 (tm p7)), none, 0, false, false⟩, ⟨(some p19), (.ld (tm p18)), none, 1, false, false⟩, s1 (some p20) (.fldA 1 (tm p7)) 2, s1 (some p21) (.ld (tm p20)) 3, s1 (some p22) (.call (cn (CV.fn 117 [] [])) [(tm p21)]) 4, s1 (some p23) (.build [(CV.str (bs [])), CV.nils] [(0, 1, (tm p19)), (1, 1, (tm p22))]) 5, s1 none (.st 2 (tm p4) (tm p23)) 6, s1 (some p5) (.mv (cn (CV.bool true))) 7])
  CC.ret)
  CC.skip))))
  (CC.run [s1 (some p24) (.bin .add (tm p10) (cn (i6 (nn 1)))) 0, s1 (some p10) (.mv (tm p24)) 1])))))))
  (CC.seq (CC.run [s1 (some p25) (.build [(CV.str (bs [])), CV.nils] []) 0, s1 none (.st 2 (tm p4) (tm p25)) 1, s1 (some p5) (.mv (cn (CV.bool false))) 2])
  CC.ret))), [CRes.cell p4 (some 2), CRes.tmp p5]⟩
theorem lit45_ok : fnO tys 45 Tryz.f45 = some lit45 := by kernel_rfl
noncomputable def lit46 : CFn :=
  ⟨46, 15, (CC.seq (CC.run [s1 (some p3) (.box 99 (tm p0)) 0, s1 (some p6) (.mv (cn (i6 (nn 0)))) 1, s1 (some p7) (.mv (cn (i6 (nn 0)))) 2])
  (CC.seq (CC.run [s1 (some p8) (.ld (tm p3)) 0, s1 (some p9) (.mv (tm p1)) 1, s1 (some p10) (.mv (tm p2)) 2, s1 (some p11) (.mkfn 119 [] [(tm p3)]) 3, s1 (some p12) (.call (cn (CV.fn 118 [] [])) [(tm p8), (tm p9), (tm p10), (tm p11)]) 4, s1 (some p13) (.extr (tm p12) 0) 5, s1 (some p14) (.extr (tm p12) 1) 6, s1 (some p6) (.mv (tm p13)) 7, s1 (some p7) (.mv (tm p14)) 8])
  CC.ret)), [CRes.tmp p6, CRes.tmp p7]⟩
theorem lit46_ok : fnO tys 46 Tryz.f46 = some lit46 := by kernel_rfl
noncomputable def lit47 : CFn :=
  ⟨47, 21, (CC.seq (CC.run [s1 (some p6) (.mv (cn (i6 (nn 0)))) 0, s1 (some p7) (.mv (cn (i6 (nn 0)))) 1])
  (CC.seq (CC.seq (CC.run [s1 (some p8) (.mv (tm p0)) 0, s1 (some p9) (.eqs false EK.ptr (tm p8) (cn CV.nilp)) 1])
  (CC.cond (tm p9) (CC.seq (CC.run [s1 (some p6) (.mv (cn (i6 (nn 0)))) 0, s1 (some p7) (.mv (cn (i6 (nn 2)))) 1])
  CC.ret)
  CC.skip))
  (CC.seq (CC.run [s1 (some p10) (.mv (tm p0)) 0, s1 (some p11) (.mv (tm p1)) 1, s1 (some p12) (.mv (tm p2)) 2, s1 (some p13) (.mv (tm p0)) 3, s1 (some p14) (.nilck (tm p13)) 4, s1 (some p15) (.fldA 0 (tm p14)) 5, s1 (some p16) (.ld (tm p15)) 6, s1 (some p17) (.mkfn 121 [(tm p16)] []) 7, s1 (some p18) (.call (cn (CV.fn 118 [] [])) [(tm p10), (tm p11), (tm p12), (tm p17)]) 8, s1 (some p19) (.extr (tm p18) 0) 9, s1 (some p20) (.extr (tm p18) 1) 10, s1 (some p6) (.mv (tm p19)) 11, s1 (some p7) (.mv (tm p20)) 12])
  CC.ret))), [CRes.tmp p6, CRes.tmp p7]⟩
theorem lit47_ok : fnO tys 47 Tryz.f47 = some lit47 := by kernel_rfl
noncomputable def lit49 : CFn :=
  ⟨49, 19, (CC.seq (CC.run [s1 (some p1) (.box 63 (tm p0)) 0, s1 (some p2) (.mv (cn (CV.int .u32 (nn 0)))) 1, s1 (some p3) (.mv (cn (CV.int .u32 (nn 0)))) 2, s1 (some p4) (.mv (cn (i6 (nn 0)))) 3])
  (CC.seq (CC.seq (CC.run [s1 (some p6) (.ldn 2 (tm p1)) 0, s1 (some p7) (.call (cn (CV.fn 122 [] [])) [(tm p6)]) 1, s1 (some p5) (.mv (tm p7)) 2])
  (CC.seq (CC.run [s1 (some p8) (.mv (tm p5)) 0, s1 (some p9) (.bin .neq (tm p8) (cn (i6 (nn 0)))) 1])
  (CC.cond (tm p9) (CC.seq (CC.run [s1 (some p10) (.mv (tm p5)) 0, s1 (some p2) (.mv (cn (CV.int .u32 (nn 0)))) 1, s1 (some p3) (.mv (cn (CV.int .u32 (nn 0)))) 2, s1 (some p4) (.mv (tm p10)) 3])
  CC.ret)
  CC.skip)))
  (CC.seq (CC.draw [] [⟨(some p11), (.fldA 0 (tm p1)), none, 0, false, false⟩, ⟨(some p12), (.ld (tm p11)), none, 1, false, false⟩, ⟨(some p13), (.fldA 0 (tm p1)), none, 2, false, false⟩, ⟨(some p14), (.ld (tm p13)), none, 3, false, false⟩, s1 (some p15) (.fldA 1 (tm p1)) 4, s1 (some p16) (.ld (tm p15)) 5, s1 (some p17) (.call (cn (CV.fn 123 [] [])) [(tm p16)]) 6, ⟨(some p18), (.bin .or (tm p14) (tm p17)), none, 7, false, false⟩, s1 (some p2) (.mv (tm p12)) 8, s1 (some p3) (.mv (tm p18)) 9, s1 (some p4) (.mv (cn (i6 (nn 0)))) 10])
  CC.ret))), [CRes.tmp p2, CRes.tmp p3, CRes.tmp p4]⟩
theorem lit49_ok : fnO tys 49 Tryz.f49 = some lit49 := by kernel_rfl
noncomputable def lit50 : CFn :=
  ⟨50, 9, (CC.seq (CC.run [s1 (some p4) (.mv (cn CV.nils)) 0])
  (CC.seq (CC.run [s1 (some p5) (.mv (tm p0)) 0, s1 (some p6) (.mv (tm p1)) 1, s1 (some p7) (.call (cn (CV.fn 125 [] [])) [(tm p6), (cn (CV.int .u32 (nn 4294967295)))]) 2, s1 (some p8) (.call (cn (CV.fn 124 [] [])) [(tm p5), (tm p7)]) 3, s1 (some p4) (.mv (tm p8)) 4])
  CC.ret)), [CRes.tmp p4]⟩
theorem lit50_ok : fnO tys 50 Tryz.f50 = some lit50 := by kernel_rfl
noncomputable def lit51 : CFn :=
  ⟨51, 10, (CC.seq (CC.run [s1 (some p4) (.mv (cn CV.nils)) 0])
  (CC.seq (CC.run [s1 (some p5) (.mv (tm p0)) 0, s1 (some p6) (.mv (tm p1)) 1, s1 (some p7) (.bslice 130 1 2 [CV.nils, CV.nils] [(0, 1, (tm p5)), (1, 1, (tm p6))]) 2, s1 (some p8) (.call (cn (CV.fn 127 [] [])) [(tm p7)]) 3, s1 (some p9) (.call (cn (CV.fn 126 [] [])) [(tm p8)]) 4, s1 (some p4) (.mv (tm p9)) 5])
  CC.ret)), [CRes.tmp p4]⟩
theorem lit51_ok : fnO tys 51 Tryz.f51 = some lit51 := by kernel_rfl
noncomputable def lit52 : CFn :=
  ⟨52, 20, (CC.seq (CC.run [s1 (some p4) (.mv (cn CV.nils)) 0])
  (CC.seq (CC.run [s1 (some p5) (.mv (cn CV.nils)) 0])
  (CC.seq (CC.seq (CC.run [s1 (some p7) (.mv (tm p0)) 0, s1 (some p8) (.mv (cn (i6 (nn 0)))) 1])
  (CC.block 0 (CC.loop (CC.seq (CC.run [s1 (some p9) (.bin .lss (tm p8) (tm p7)) 0])
  (CC.seq (CC.cond (tm p9) CC.skip
  (CC.exit 0))
  (CC.seq (CC.block 1 (CC.seq (CC.run [s1 (some p10) (.mv (tm p8)) 0, s1 (some p6) (.mv (tm p10)) 1])
  (CC.seq (CC.run [s1 (some p11) (.mv (tm p1)) 0, s1 (some p12) (.mv (tm p6)) 1, s1 (some p13) (.call (tm p11) [(tm p12)]) 2])
  (CC.cond (tm p13) (CC.run [s1 (some p14) (.mv (tm p5)) 0, s1 (some p15) (.mv (tm p6)) 1, s1 (some p16) (.bslice 3 1 1 [(i6 (nn 0))] [(0, 1, (tm p15))]) 2, s1 (some p17) (.app 3 1 8 (tm p14) (tm p16)) 3, s1 (some p5) (.mv (tm p17)) 4])
  CC.skip))))
  (CC.run [s1 (some p18) (.bin .add (tm p8) (cn (i6 (nn 1)))) 0, s1 (some p8) (.mv (tm p18)) 1])))))))
  (CC.seq (CC.run [s1 (some p19) (.mv (tm p5)) 0, s1 (some p4) (.mv (tm p19)) 1])
  CC.ret)))), [CRes.tmp p4]⟩
theorem lit52_ok : fnO tys 52 Tryz.f52 = some lit52 := by kernel_rfl
noncomputable def lit53 : CFn :=
  ⟨53, 9, (CC.seq (CC.run [s1 (some p3) (.mv (cn (CV.bool false))) 0])
  (CC.seq (CC.run [s1 (some p4) (.ld (tm p1)) 0, s1 (some p5) (.mv (tm p0)) 1, s1 (some p6) (.idxAS 1 (tm p4) (tm p5)) 2, s1 (some p7) (.ld (tm p6)) 3, s1 (some p8) (.not (tm p7)) 4, s1 (some p3) (.mv (tm p8)) 5])
  CC.ret)), [CRes.tmp p3]⟩
theorem lit53_ok : fnO tys 53 Tryz.f53 = some lit53 := by kernel_rfl
noncomputable def lit54 : CFn :=
  ⟨54, 10, (CC.seq (CC.run [s1 (some p2) (.box 3 (tm p0)) 0, s1 (some p3) (.mv (cn (CV.bool false))) 1])
  (CC.seq (CC.run [s1 (some p4) (.fldA 1 (tm p1)) 0, s1 (some p5) (.ld (tm p4)) 1, s1 (some p6) (.ld (tm p2)) 2, s1 (some p7) (.slice 2 (tm p5) none (some (tm p6))) 3, s1 (some p8) (.mkfn 56 [] [(tm p1), (tm p2)]) 4, s1 (some p9) (.call (cn (CV.fn 55 [] [])) [(tm p7), (tm p8)]) 5, s1 (some p3) (.mv (tm p9)) 6])
  CC.ret)), [CRes.tmp p3]⟩
theorem lit54_ok : fnO tys 54 Tryz.f54 = some lit54 := by kernel_rfl
noncomputable def lit55 : CFn :=
  ⟨55, 9, (CC.seq (CC.run [s1 (some p4) (.mv (cn (CV.bool false))) 0])
  (CC.seq (CC.run [s1 (some p5) (.mv (tm p0)) 0, s1 (some p6) (.mv (tm p1)) 1, s1 (some p7) (.call (cn (CV.fn 128 [] [])) [(tm p5), (tm p6)]) 2, s1 (some p8) (.bin .geq (tm p7) (cn (i6 (nn 0)))) 3, s1 (some p4) (.mv (tm p8)) 4])
  CC.ret)), [CRes.tmp p4]⟩
theorem lit55_ok : fnO tys 55 Tryz.f55 = some lit55 := by kernel_rfl
noncomputable def lit56 : CFn :=
  ⟨56, 10, (CC.seq (CC.run [s1 (some p3) (.box 73 (tm p0)) 0, s1 (some p4) (.mv (cn (CV.bool false))) 1])
  (CC.seq (CC.run [s1 (some p5) (.fldA 1 (tm p3)) 0, s1 (some p6) (.ld (tm p5)) 1, s1 (some p7) (.mkfn 58 [] [(tm p1), (tm p2)]) 2, s1 (some p8) (.call (cn (CV.fn 57 [] [])) [(tm p6), (tm p7)]) 3, s1 (some p9) (.not (tm p8)) 4, s1 (some p4) (.mv (tm p9)) 5])
  CC.ret)), [CRes.tmp p4]⟩
theorem lit56_ok : fnO tys 56 Tryz.f56 = some lit56 := by kernel_rfl
noncomputable def lit57 : CFn :=
  ⟨57, 9, (CC.seq (CC.run [s1 (some p4) (.mv (cn (CV.bool false))) 0])
  (CC.seq (CC.run [s1 (some p5) (.mv (tm p0)) 0, s1 (some p6) (.mv (tm p1)) 1, s1 (some p7) (.call (cn (CV.fn 129 [] [])) [(tm p5), (tm p6)]) 2, s1 (some p8) (.bin .geq (tm p7) (cn (i6 (nn 0)))) 3, s1 (some p4) (.mv (tm p8)) 4])
  CC.ret)), [CRes.tmp p4]⟩
theorem lit57_ok : fnO tys 57 Tryz.f57 = some lit57 := by kernel_rfl
noncomputable def lit58 : CFn :=
  ⟨58, 14, (CC.seq (CC.run [s1 (some p4) (.mv (cn (CV.bool false))) 0])
  (CC.seq (CC.run [s1 (some p5) (.fldA 1 (tm p1)) 0, s1 (some p6) (.ld (tm p5)) 1, s1 (some p7) (.ld (tm p2)) 2, s1 (some p8) (.idxAS 2 (tm p6) (tm p7)) 3, s1 (some p9) (.fldA 1 (tm p8)) 4, s1 (some p10) (.ld (tm p9)) 5, s1 (some p11) (.mv (tm p0)) 6, s1 (some p12) (.call (cn (CV.fn 59 [] [])) [(tm p10), (tm p11)]) 7, s1 (some p13) (.not (tm p12)) 8, s1 (some p4) (.mv (tm p13)) 9])
  CC.ret)), [CRes.tmp p4]⟩
theorem lit58_ok : fnO tys 58 Tryz.f58 = some lit58 := by kernel_rfl
noncomputable def lit59 : CFn :=
  ⟨59, 9, (CC.seq (CC.run [s1 (some p4) (.mv (cn (CV.bool false))) 0])
  (CC.seq (CC.run [s1 (some p5) (.mv (tm p0)) 0, s1 (some p6) (.mv (tm p1)) 1, s1 (some p7) (.call (cn (CV.fn 130 [] [])) [(tm p5), (tm p6)]) 2, s1 (some p8) (.bin .geq (tm p7) (cn (i6 (nn 0)))) 3, s1 (some p4) (.mv (tm p8)) 4])
  CC.ret)), [CRes.tmp p4]⟩
theorem lit59_ok : fnO tys 59 Tryz.f59 = some lit59 := by kernel_rfl
noncomputable def lit73 : CFn :=
  ⟨73, 19, (CC.seq (CC.run [s1 (some p4) (.mv (cn (i6 (nn 0)))) 0])
  (CC.seq (CC.seq (CC.run [s1 (some p6) (.mv (tm p0)) 0, s1 (some p7) (.len false (tm p6)) 1, s1 (some p8) (.mv (cn (i6 (nn 0)))) 2])
  (CC.block 0 (CC.loop (CC.seq (CC.run [s1 (some p9) (.bin .lss (tm p8) (tm p7)) 0])
  (CC.seq (CC.cond (tm p9) CC.skip
  (CC.exit 0))
  (CC.seq (CC.block 1 (CC.seq (CC.run [s1 (some p10) (.mv (tm p8)) 0, s1 (some p5) (.mv (tm p10)) 1])
  (CC.seq (CC.run [s1 (some p11) (.mv (tm p1)) 0, s1 (some p12) (.mv (tm p0)) 1, s1 (some p13) (.mv (tm p5)) 2, s1 (some p14) (.idxAS 2 (tm p12) (tm p13)) 3, s1 (some p15) (.ldn 2 (tm p14)) 4, s1 (some p16) (.call (tm p11) [(tm p15)]) 5])
  (CC.cond (tm p16) (CC.seq (CC.run [s1 (some p17) (.mv (tm p5)) 0, s1 (some p4) (.mv (tm p17)) 1])
  CC.ret)
  CC.skip))))
  (CC.run [s1 (some p18) (.bin .add (tm p8) (cn (i6 (nn 1)))) 0, s1 (some p8) (.mv (tm p18)) 1])))))))
  (CC.seq (CC.run [s1 (some p4) (.mv (cn (i6 (Int.negSucc 0)))) 0])
  CC.ret))), [CRes.tmp p4]⟩
theorem lit73_ok : fnO tys 73 Tryz.f73 = some lit73 := by kernel_rfl
noncomputable def lit77 : CFn :=
  ⟨77, 19, (CC.seq (CC.run [s1 (some p4) (.mv (cn (i6 (nn 0)))) 0])
  (CC.seq (CC.seq (CC.run [s1 (some p6) (.mv (tm p0)) 0, s1 (some p7) (.len false (tm p6)) 1, s1 (some p8) (.mv (cn (i6 (nn 0)))) 2])
  (CC.block 0 (CC.loop (CC.seq (CC.run [s1 (some p9) (.bin .lss (tm p8) (tm p7)) 0])
  (CC.seq (CC.cond (tm p9) CC.skip
  (CC.exit 0))
  (CC.seq (CC.block 1 (CC.seq (CC.run [s1 (some p10) (.mv (tm p8)) 0, s1 (some p5) (.mv (tm p10)) 1])
  (CC.seq (CC.run [s1 (some p11) (.mv (tm p1)) 0, s1 (some p12) (.mv (tm p0)) 1, s1 (some p13) (.mv (tm p5)) 2, s1 (some p14) (.idxAS 2 (tm p12) (tm p13)) 3, s1 (some p15) (.ldn 2 (tm p14)) 4, s1 (some p16) (.call (tm p11) [(tm p15)]) 5])
  (CC.cond (tm p16) (CC.seq (CC.run [s1 (some p17) (.mv (tm p5)) 0, s1 (some p4) (.mv (tm p17)) 1])
  CC.ret)
  CC.skip))))
  (CC.run [s1 (some p18) (.bin .add (tm p8) (cn (i6 (nn 1)))) 0, s1 (some p8) (.mv (tm p18)) 1])))))))
  (CC.seq (CC.run [s1 (some p4) (.mv (cn (i6 (Int.negSucc 0)))) 0])
  CC.ret))), [CRes.tmp p4]⟩
theorem lit77_ok : fnO tys 77 Tryz.f77 = some lit77 := by kernel_rfl
noncomputable def lit89 : CFn :=
  ⟨89, 34, (CC.seq (CC.run [s1 (some p4) (.mv (cn CV.nilp)) 0, s1 (some p5) (.mv (cn (i6 (nn 0)))) 1])
  (CC.seq (CC.seq (CC.run [s1 (some p7) (.mv (tm p0)) 0, s1 (some p8) (.bin .lss (tm p7) (cn (i6 (nn 0)))) 1, s1 (some p9) (.mv (tm p8)) 2, ⟨(some p10), (.mv (tm p0)), (some (p9, false)), 3, true, true⟩, ⟨(some p11), (.bin .gtr (tm p10) (cn (i6 (nn 256)))), (some (p9, false)), 4, true, true⟩, s1 (some p12) (.pick (tm p9) (cn (CV.bool true)) (tm p11)) 5, s1 (some p13) (.mv (tm p12)) 6, ⟨(some p14), (.mv (tm p1)), (some (p13, false)), 7, true, true⟩, ⟨(some p15), (.bin .lss (tm p14) (cn (i6 (nn 0)))), (some (p13, false)), 8, true, true⟩, s1 (some p16) (.pick (tm p13) (cn (CV.bool true)) (tm p15)) 9, s1 (some p17) (.mv (tm p16)) 10, ⟨(some p18), (.mv (tm p1)), (some (p17, false)), 11, true, true⟩, ⟨(some p19), (.bin .gtr (tm p18) (cn (i6 (nn 4194304)))), (some (p17, false)), 12, true, true⟩, s1 (some p20) (.pick (tm p17) (cn (CV.bool true)) (tm p19)) 13])
  (CC.cond (tm p20) (CC.seq (CC.run [s1 (some p4) (.mv (cn CV.nilp)) 0, s1 (some p5) (.mv (cn (i6 (nn 1)))) 1])
  CC.ret)
  CC.skip))
  (CC.seq (CC.run [s1 (some p21) (.build [(i3 (nn 0)), (i3 (nn 0)), (i3 (nn 0))] [(0, 1, (cn (i3 (nn 256))))]) 0, s1 (some p22) (.build [(i3 (nn 0)), (i3 (nn 0)), (i3 (nn 0))] [(0, 1, (cn (i3 (nn 256))))]) 1, s1 (some p23) (.bslice 276 3 2 [(i3 (nn 0)), (i3 (nn 0)), (i3 (nn 0)), (i3 (nn 0)), (i3 (nn 0)), (i3 (nn 0))] [(0, 3, (tm p21)), (3, 3, (tm p22))]) 2, s1 (some p6) (.mv (tm p23)) 3])
  (CC.seq (CC.run [s1 (some p24) (.mv (tm p0)) 0, s1 (some p25) (.mv (tm p1)) 1, s1 (some p26) (.mv (tm p6)) 2, s1 (some p27) .mkmap 3, s1 (some p28) .mkmap 4, s1 (some p29) .mkmap 5, s1 none (.mupd KK.int (tm p29) (cn (i6 (nn 0))) (cn (CV.bool true))) 6, s1 none (.mupd KK.int (tm p29) (cn (i6 (nn 1))) (cn (CV.bool true))) 7, s1 (some p30) (.mv (tm p29)) 8, s1 (some p31) .mkmap 9, s1 (some p32) (.build [(i6 (nn 0)), (i6 (nn 0)), CV.nils, CV.nilm, CV.nilm, CV.nilm, CV.nilm] [(0, 1, (tm p24)), (1, 1, (tm p25)), (2, 1, (tm p26)), (3, 1, (tm p27)), (4, 1, (tm p28)), (5, 1, (tm p30)), (6, 1, (tm p31))]) 10, s1 (some p33) (.box 283 (tm p32)) 11, s1 (some p4) (.mv (tm p33)) 12, s1 (some p5) (.mv (cn (i6 (nn 0)))) 13])
  CC.ret)))), [CRes.tmp p4, CRes.tmp p5]⟩
theorem lit89_ok : fnO tys 89 Tryz.f89 = some lit89 := by kernel_rfl
noncomputable def lit91 : CFn :=
  ⟨91, 9, (CC.seq (CC.run [s1 (some p4) (.mv (cn (CV.bool false))) 0])
  (CC.seq (CC.run [s1 (some p5) (.mv (tm p0)) 0, s1 (some p6) (.mv (tm p1)) 1, s1 (some p7) (.call (cn (CV.fn 179 [] [])) [(tm p5), (tm p6)]) 2, s1 (some p8) (.bin .geq (tm p7) (cn (i6 (nn 0)))) 3, s1 (some p4) (.mv (tm p8)) 4])
  CC.ret)), [CRes.tmp p4]⟩
theorem lit91_ok : fnO tys 91 Tryz.f91 = some lit91 := by kernel_rfl
noncomputable def lit92 : CFn :=
  ⟨92, 7, (CC.seq (CC.run [s1 (some p2) (.box 92 (tm p0)) 0, s1 (some p3) (.mv (cn (CV.bool false))) 1])
  (CC.seq (CC.run [s1 (some p4) (.ldn 10 (tm p2)) 0, s1 (some p5) (.ldn 10 (tm p1)) 1, s1 (some p6) (.eqs false (EK.agg [Lf.bool, (Lf.int .i64), (Lf.int .u32), (Lf.int .i64), (Lf.int .u32), (Lf.int .i64), (Lf.int .u32), (Lf.int .u32), (Lf.int .u32), (Lf.int .u32)]) (tm p4) (tm p5)) 2, s1 (some p3) (.mv (tm p6)) 3])
  CC.ret)), [CRes.tmp p3]⟩
theorem lit92_ok : fnO tys 92 Tryz.f92 = some lit92 := by kernel_rfl
noncomputable def lit93 : CFn :=
  ⟨93, 50, (CC.seq (CC.run [s1 (some p2) (.box 99 (tm p0)) 0, s1 (some p3) (.box 92 (tm p1)) 1, s1 (some p4) (.mv (cn (i6 (nn 0)))) 2, s1 (some p5) (.mv (cn (i6 (nn 0)))) 3])
  (CC.seq (CC.run [s1 (some p12) (.mkfn 180 [] [(tm p2), (tm p3)]) 0, s1 (some p13) (.mkfn 182 [] [(tm p2), (tm p3)]) 1, s1 (some p14) (.mkfn 183 [] [(tm p2), (tm p3)]) 2, s1 (some p15) (.mkfn 185 [] [(tm p2), (tm p3)]) 3, s1 (some p16) (.bslice 287 1 4 [CV.nilf, CV.nilf, CV.nilf, CV.nilf] [(0, 1, (tm p12)), (1, 1, (tm p13)), (2, 1, (tm p14)), (3, 1, (tm p15))]) 4, s1 (some p6) (.mv (tm p16)) 5])
  (CC.seq (CC.seq (CC.run [s1 (some p17) (.fldA 1 (tm p3)) 0, s1 (some p18) (.ld (tm p17)) 1, s1 (some p19) (.bin .geq (tm p18) (cn (i6 (nn 0)))) 2])
  (CC.cond (tm p19) (CC.run [s1 (some p20) (.mv (tm p6)) 0, s1 (some p21) (.mkfn 186 [] [(tm p2), (tm p3)]) 1, s1 (some p22) (.bslice 287 1 1 [CV.nilf] [(0, 1, (tm p21))]) 2, s1 (some p23) (.app 287 1 8 (tm p20) (tm p22)) 3, s1 (some p6) (.mv (tm p23)) 4])
  CC.skip))
  (CC.seq (CC.run [s1 (some p7) (.mv (cn (i6 (nn 1)))) 0])
  (CC.seq (CC.seq (CC.run [s1 (some p24) (.mv (tm p6)) 0, s1 (some p25) (.len false (tm p24)) 1, s1 (some p26) (.mv (cn (i6 (nn 0)))) 2])
  (CC.block 0 (CC.loop (CC.seq (CC.run [s1 (some p27) (.bin .lss (tm p26) (tm p25)) 0])
  (CC.seq (CC.cond (tm p27) CC.skip
  (CC.exit 0))
  (CC.seq (CC.block 1 (CC.seq (CC.run [s1 (some p28) (.idxAS 1 (tm p24) (tm p26)) 0, s1 (some p29) (.ld (tm p28)) 1, s1 (some p9) (.mv (tm p29)) 2])
  (CC.seq (CC.run [s1 (some p31) (.mv (tm p9)) 0, s1 (some p32) (.call (tm p31) []) 1, s1 (some p30) (.mv (tm p32)) 2, s1 (some p33) (.extr (tm p30) 0) 3, s1 (some p34) (.extr (tm p30) 1) 4, s1 (some p10) (.mv (tm p33)) 5, s1 (some p11) (.mv (tm p34)) 6])
  (CC.seq (CC.seq (CC.run [s1 (some p35) (.mv (tm p11)) 0, s1 (some p36) (.bin .neq (tm p35) (cn (i6 (nn 0)))) 1])
  (CC.cond (tm p36) (CC.seq (CC.run [s1 (some p37) (.mv (tm p11)) 0, s1 (some p4) (.mv (cn (i6 (nn 0)))) 1, s1 (some p5) (.mv (tm p37)) 2])
  CC.ret)
  CC.skip))
  (CC.seq (CC.run [s1 (some p39) (.ld (tm p2)) 0, s1 (some p40) (.mv (tm p7)) 1, s1 (some p41) (.mv (tm p10)) 2, s1 (some p42) (.call (cn (CV.fn 94 [] [])) [(tm p39), (tm p40), (tm p41)]) 3, s1 (some p38) (.mv (tm p42)) 4, s1 (some p43) (.extr (tm p38) 0) 5, s1 (some p44) (.extr (tm p38) 1) 6, s1 (some p7) (.mv (tm p43)) 7, s1 (some p11) (.mv (tm p44)) 8])
  (CC.seq (CC.run [s1 (some p45) (.mv (tm p11)) 0, s1 (some p46) (.bin .neq (tm p45) (cn (i6 (nn 0)))) 1])
  (CC.cond (tm p46) (CC.seq (CC.run [s1 (some p47) (.mv (tm p11)) 0, s1 (some p4) (.mv (cn (i6 (nn 0)))) 1, s1 (some p5) (.mv (tm p47)) 2])
  CC.ret)
  CC.skip)))))))
  (CC.run [s1 (some p48) (.bin .add (tm p26) (cn (i6 (nn 1)))) 0, s1 (some p26) (.mv (tm p48)) 1])))))))
  (CC.seq (CC.run [s1 (some p49) (.mv (tm p7)) 0, s1 (some p4) (.mv (tm p49)) 1, s1 (some p5) (.mv (cn (i6 (nn 0)))) 2])
  CC.ret)))))), [CRes.tmp p4, CRes.tmp p5]⟩
theorem lit93_ok : fnO tys 93 Tryz.f93 = some lit93 := by kernel_rfl
noncomputable def lit94 : CFn :=
  ⟨94, 21, (CC.seq (CC.run [s1 (some p6) (.mv (cn (i6 (nn 0)))) 0, s1 (some p7) (.mv (cn (i6 (nn 0)))) 1])
  (CC.seq (CC.seq (CC.run [s1 (some p8) (.mv (tm p0)) 0, s1 (some p9) (.eqs false EK.ptr (tm p8) (cn CV.nilp)) 1])
  (CC.cond (tm p9) (CC.seq (CC.run [s1 (some p6) (.mv (cn (i6 (nn 0)))) 0, s1 (some p7) (.mv (cn (i6 (nn 2)))) 1])
  CC.ret)
  CC.skip))
  (CC.seq (CC.run [s1 (some p10) (.mv (tm p0)) 0, s1 (some p11) (.mv (tm p1)) 1, s1 (some p12) (.mv (tm p2)) 2, s1 (some p13) (.mv (tm p0)) 3, s1 (some p14) (.nilck (tm p13)) 4, s1 (some p15) (.fldA 0 (tm p14)) 5, s1 (some p16) (.ld (tm p15)) 6, s1 (some p17) (.mkfn 187 [(tm p16)] []) 7, s1 (some p18) (.call (cn (CV.fn 118 [] [])) [(tm p10), (tm p11), (tm p12), (tm p17)]) 8, s1 (some p19) (.extr (tm p18) 0) 9, s1 (some p20) (.extr (tm p18) 1) 10, s1 (some p6) (.mv (tm p19)) 11, s1 (some p7) (.mv (tm p20)) 12])
  CC.ret))), [CRes.tmp p6, CRes.tmp p7]⟩
theorem lit94_ok : fnO tys 94 Tryz.f94 = some lit94 := by kernel_rfl
noncomputable def lit102 : CFn :=
  ⟨102, 61, (CC.seq (CC.run [s1 (some p2) (.box 33 (tm p0)) 0, s1 (some p3) (.box 97 (tm p1)) 1, s1 (some p4) (.mv (cn (CV.bool false))) 2])
  (CC.seq (CC.seq (CC.run [s1 (some p9) (.fldA 7 (tm p2)) 0, s1 (some p10) (.ld (tm p9)) 1, s1 (some p11) (.mkfn 194 [] [(tm p3)]) 2, s1 (some p12) (.call (cn (CV.fn 73 [] [])) [(tm p10), (tm p11)]) 3, s1 (some p5) (.new 3 [(i6 (nn 0))]) 4, s1 none (.st 1 (tm p5) (tm p12)) 5])
  (CC.seq (CC.run [s1 (some p13) (.fldA 2 (tm p3)) 0, s1 (some p14) (.ld (tm p13)) 1, s1 (some p15) (.bin .neq (tm p14) (cn (CV.str (bs [])))) 2])
  (CC.cond (tm p15) (CC.seq (CC.seq (CC.run [s1 (some p16) (.ld (tm p5)) 0, s1 (some p17) (.bin .lss (tm p16) (cn (i6 (nn 0)))) 1])
  (CC.cond (tm p17) (CC.seq (CC.run [s1 (some p4) (.mv (cn (CV.bool false))) 0])
  CC.ret)
  CC.skip))
  (CC.seq (CC.run [s1 (some p18) (.fldA 7 (tm p2)) 0, s1 (some p19) (.ld (tm p18)) 1, s1 (some p20) (.ld (tm p5)) 2, s1 (some p21) (.idxAS 2 (tm p19) (tm p20)) 3, s1 (some p22) (.ldn 2 (tm p21)) 4, s1 (some p23) (.call (cn (CV.fn 17 [] [])) [(tm p22)]) 5, s1 (some p6) (.new 37 [CV.nils]) 6, s1 none (.st 1 (tm p6) (tm p23)) 7])
  (CC.seq (CC.run [s1 (some p24) (.fldA 7 (tm p2)) 0, s1 (some p25) (.ld (tm p24)) 1, s1 (some p26) (.ld (tm p5)) 2, s1 (some p27) (.idxAS 2 (tm p25) (tm p26)) 3, s1 (some p28) (.fldA 1 (tm p27)) 4, s1 (some p29) (.ld (tm p28)) 5, s1 (some p30) (.len false (tm p29)) 6, s1 (some p31) (.mkfn 195 [] [(tm p2), (tm p5), (tm p6)]) 7, s1 (some p32) (.call (cn (CV.fn 52 [] [])) [(tm p30), (tm p31)]) 8, s1 (some p33) (.len false (tm p32)) 9, s1 (some p34) (.bin .eql (tm p33) (cn (i6 (nn 0)))) 10])
  (CC.cond (tm p34) (CC.seq (CC.run [s1 (some p4) (.mv (cn (CV.bool false))) 0])
  CC.ret)
  CC.skip))))
  CC.skip)))
  (CC.seq (CC.seq (CC.run [s1 (some p35) (.fldA 8 (tm p2)) 0, s1 (some p36) (.ld (tm p35)) 1, s1 (some p37) (.mkfn 197 [] [(tm p3)]) 2, s1 (some p38) (.call (cn (CV.fn 77 [] [])) [(tm p36), (tm p37)]) 3, s1 (some p7) (.new 3 [(i6 (nn 0))]) 4, s1 none (.st 1 (tm p7) (tm p38)) 5])
  (CC.seq (CC.run [s1 (some p39) (.fldA 3 (tm p3)) 0, s1 (some p40) (.ld (tm p39)) 1, s1 (some p41) (.bin .neq (tm p40) (cn (CV.str (bs [])))) 2])
  (CC.cond (tm p41) (CC.seq (CC.seq (CC.run [s1 (some p42) (.ld (tm p7)) 0, s1 (some p43) (.bin .lss (tm p42) (cn (i6 (nn 0)))) 1])
  (CC.cond (tm p43) (CC.seq (CC.run [s1 (some p4) (.mv (cn (CV.bool false))) 0])
  CC.ret)
  CC.skip))
  (CC.seq (CC.run [s1 (some p44) (.fldA 8 (tm p2)) 0, s1 (some p45) (.ld (tm p44)) 1, s1 (some p46) (.ld (tm p7)) 2, s1 (some p47) (.idxAS 2 (tm p45) (tm p46)) 3, s1 (some p48) (.ldn 2 (tm p47)) 4, s1 (some p49) (.call (cn (CV.fn 18 [] [])) [(tm p48)]) 5, s1 (some p8) (.new 37 [CV.nils]) 6, s1 none (.st 1 (tm p8) (tm p49)) 7])
  (CC.seq (CC.run [s1 (some p50) (.fldA 8 (tm p2)) 0, s1 (some p51) (.ld (tm p50)) 1, s1 (some p52) (.ld (tm p7)) 2, s1 (some p53) (.idxAS 2 (tm p51) (tm p52)) 3, s1 (some p54) (.fldA 1 (tm p53)) 4, s1 (some p55) (.ld (tm p54)) 5, s1 (some p56) (.len false (tm p55)) 6, s1 (some p57) (.mkfn 198 [] [(tm p2), (tm p7), (tm p8)]) 7, s1 (some p58) (.call (cn (CV.fn 52 [] [])) [(tm p56), (tm p57)]) 8, s1 (some p59) (.len false (tm p58)) 9, s1 (some p60) (.bin .gtr (tm p59) (cn (i6 (nn 0)))) 10, s1 (some p4) (.mv (tm p60)) 11])
  CC.ret)))
  CC.skip)))
  (CC.seq (CC.run [s1 (some p4) (.mv (cn (CV.bool true))) 0])
  CC.ret)))), [CRes.tmp p4]⟩
theorem lit102_ok : fnO tys 102 Tryz.f102 = some lit102 := by kernel_rfl
noncomputable def lit103 : CFn :=
  ⟨103, 78, (CC.seq (CC.seq (CC.run [s1 (some p9) (.mv (tm p0)) 0, s1 (some p10) (.ld (tm p1)) 1, s1 (some p11) (.bin .geq (tm p9) (tm p10)) 2, s1 (some p12) (.mv (tm p11)) 3, ⟨(some p13), (.ld (tm p2)), (some (p12, false)), 4, true, true⟩, ⟨(some p14), (.mv (tm p0)), (some (p12, false)), 5, true, true⟩, ⟨(some p15), (.idxAS 1 (tm p13) (tm p14)), (some (p12, false)), 6, true, true⟩, ⟨(some p16), (.ld (tm p15)), (some (p12, false)), 7, true, true⟩, s1 (some p17) (.pick (tm p12) (cn (CV.bool true)) (tm p16)) 8])
  (CC.cond (tm p17) CC.ret
  CC.skip))
  (CC.seq (CC.run [s1 (some p18) (.ld (tm p2)) 0, s1 (some p19) (.mv (tm p0)) 1, s1 (some p20) (.idxAS 1 (tm p18) (tm p19)) 2, s1 none (.st 1 (tm p20) (cn (CV.bool true))) 3])
  (CC.seq (CC.run [s1 (some p21) (.fldA 1 (tm p3)) 0, s1 (some p22) (.ld (tm p21)) 1, s1 (some p23) (.mv (tm p0)) 2, s1 (some p24) (.idxAS 15 (tm p22) (tm p23)) 3, s1 (some p25) (.ldn 15 (tm p24)) 4, s1 (some p7) (.new 97 [(i6 (nn 0)), (CV.int .u8 (nn 0)), (CV.str (bs [])), (CV.str (bs [])), (i6 (nn 0)), (i6 (nn 0)), (i6 (nn 0)), (i6 (nn 0)), (i6 (nn 0)), (i6 (nn 0)), CV.nils, (CV.bool false), CV.nils, (CV.int .u32 (nn 0)), (i6 (nn 0))]) 5, s1 none (.st 15 (tm p7) (tm p25)) 6])
  (CC.seq (CC.seq (CC.run [s1 (some p26) (.ldn 15 (tm p7)) 0, s1 (some p27) (.call (cn (CV.fn 104 [] [])) [(tm p26)]) 1, s1 (some p28) (.not (tm p27)) 2, s1 (some p29) (.mv (tm p28)) 3, ⟨(some p30), (.fldA 1 (tm p7)), (some (p29, false)), 4, true, true⟩, ⟨(some p31), (.ld (tm p30)), (some (p29, false)), 5, true, true⟩, ⟨(some p32), (.bin .neq (tm p31) (cn (CV.int .u8 (nn 0)))), (some (p29, false)), 6, true, true⟩, ⟨(some p33), (.mv (tm p32)), (some (p29, false)), 7, true, true⟩, ⟨(some p34), (.fldA 1 (tm p7)), (some (p33, true)), 8, true, true⟩, ⟨(some p35), (.ld (tm p34)), (some (p33, true)), 9, true, true⟩, ⟨(some p36), (.bin .neq (tm p35) (cn (CV.int .u8 (nn 1)))), (some (p33, true)), 10, true, true⟩, ⟨(some p37), (.pick (tm p33) (tm p36) (cn (CV.bool false))), (some (p29, false)), 11, true, true⟩, s1 (some p38) (.pick (tm p29) (cn (CV.bool true)) (tm p37)) 12])
  (CC.cond (tm p38) (CC.run [s1 (some p39) (.ld (tm p4)) 0, s1 (some p40) (.mv (tm p0)) 1, s1 (some p41) (.bin .add (tm p40) (cn (i6 (nn 1)))) 2, s1 (some p42) (.call (tm p39) [(tm p41)]) 3])
  CC.skip))
  (CC.seq (CC.run [s1 (some p43) (.fldA 1 (tm p7)) 0, s1 (some p44) (.ld (tm p43)) 1, s1 (some p45) (.bin .eql (tm p44) (cn (CV.int .u8 (nn 1)))) 2, s1 (some p46) (.mv (tm p45)) 3, ⟨(some p47), (.fldA 14 (tm p7)), (some (p46, true)), 4, true, true⟩, ⟨(some p48), (.ld (tm p47)), (some (p46, true)), 5, true, true⟩, ⟨(some p49), (.bin .neq (tm p48) (cn (i6 (nn 0)))), (some (p46, true)), 6, true, true⟩, s1 (some p50) (.pick (tm p46) (tm p49) (cn (CV.bool false))) 7, s1 (some p51) (.mv (tm p50)) 8, ⟨(some p52), (.ld (tm p5)), (some (p51, true)), 9, true, true⟩, ⟨(some p53), (.mv (tm p0)), (some (p51, true)), 10, true, true⟩, ⟨(some p54), (.idxAS 1 (tm p52) (tm p53)), (some (p51, true)), 11, true, true⟩, ⟨(some p55), (.ld (tm p54)), (some (p51, true)), 12, true, true⟩, s1 (some p56) (.pick (tm p51) (tm p55) (cn (CV.bool false))) 13])
  (CC.cond (tm p56) (CC.seq (CC.run [s1 (some p57) (.mv (tm p0)) 0, s1 (some p58) (.bin .add (tm p57) (cn (i6 (nn 1)))) 1, s1 (some p8) (.mv (tm p58)) 2])
  (CC.seq (CC.block 0 (CC.loop (CC.seq (CC.seq (CC.draw [] [⟨(some p59), (.mv (tm p8)), none, 0, false, true⟩, s1 (some p60) (.ld (tm p1)) 1, s1 (some p61) (.bin .lss (tm p59) (tm p60)) 2, s1 (some p62) (.mv (tm p61)) 3, ⟨(some p63), (.fldA 1 (tm p3)), (some (p62, true)), 4, false, true⟩, ⟨(some p64), (.ld (tm p63)), (some (p62, true)), 5, false, true⟩, ⟨(some p65), (.mv (tm p8)), (some (p62, true)), 6, false, true⟩, ⟨(some p66), (.idxAS 15 (tm p64) (tm p65)), (some (p62, true)), 7, false, true⟩, ⟨(some p67), (.fldA 0 (tm p66)), (some (p62, true)), 8, false, true⟩, ⟨(some p68), (.ld (tm p67)), (some (p62, true)), 9, false, true⟩, ⟨(some p69), (.fldA 14 (tm p7)), (some (p62, true)), 10, true, true⟩, ⟨(some p70), (.ld (tm p69)), (some (p62, true)), 11, true, true⟩, ⟨(some p71), (.bin .lss (tm p68) (tm p70)), (some (p62, true)), 12, true, true⟩, s1 (some p72) (.pick (tm p62) (tm p71) (cn (CV.bool false))) 13])
  (CC.cond (tm p72) CC.skip
  (CC.exit 0)))
  (CC.block 1 (CC.run [s1 (some p73) (.mv (tm p8)) 0, s1 (some p74) (.bin .add (tm p73) (cn (i6 (nn 1)))) 1, s1 (some p8) (.mv (tm p74)) 2])))))
  (CC.run [s1 (some p75) (.ld (tm p4)) 0, s1 (some p76) (.mv (tm p8)) 1, s1 (some p77) (.call (tm p75) [(tm p76)]) 2])))
  CC.skip)))))), []⟩
theorem lit103_ok : fnO tys 103 Tryz.f103 = some lit103 := by kernel_rfl
noncomputable def lit104 : CFn :=
  ⟨104, 26, (CC.seq (CC.run [s1 (some p1) (.box 97 (tm p0)) 0, s1 (some p2) (.mv (cn (CV.bool false))) 1])
  (CC.seq (CC.run [s1 (some p3) (.fldA 2 (tm p1)) 0, s1 (some p4) (.ld (tm p3)) 1, s1 (some p5) (.bin .eql (tm p4) (cn (CV.str (bs [])))) 2, s1 (some p6) (.mv (tm p5)) 3, ⟨(some p7), (.fldA 3 (tm p1)), (some (p6, true)), 4, true, true⟩, ⟨(some p8), (.ld (tm p7)), (some (p6, true)), 5, true, true⟩, ⟨(some p9), (.bin .eql (tm p8) (cn (CV.str (bs [])))), (some (p6, true)), 6, true, true⟩, s1 (some p10) (.pick (tm p6) (tm p9) (cn (CV.bool false))) 7, s1 (some p11) (.mv (tm p10)) 8, ⟨(some p12), (.fldA 4 (tm p1)), (some (p11, true)), 9, true, true⟩, ⟨(some p13), (.ld (tm p12)), (some (p11, true)), 10, true, true⟩, ⟨(some p14), (.bin .eql (tm p13) (cn (i6 (Int.negSucc 0)))), (some (p11, true)), 11, true, true⟩, s1 (some p15) (.pick (tm p11) (tm p14) (cn (CV.bool false))) 12, s1 (some p16) (.mv (tm p15)) 13, ⟨(some p17), (.fldA 5 (tm p1)), (some (p16, true)), 14, true, true⟩, ⟨(some p18), (.ld (tm p17)), (some (p16, true)), 15, true, true⟩, ⟨(some p19), (.bin .eql (tm p18) (cn (i6 (Int.negSucc 0)))), (some (p16, true)), 16, true, true⟩, s1 (some p20) (.pick (tm p16) (tm p19) (cn (CV.bool false))) 17, s1 (some p21) (.mv (tm p20)) 18, ⟨(some p22), (.fldA 6 (tm p1)), (some (p21, true)), 19, true, true⟩, ⟨(some p23), (.ld (tm p22)), (some (p21, true)), 20, true, true⟩, ⟨(some p24), (.bin .eql (tm p23) (cn (i6 (Int.negSucc 0)))), (some (p21, true)), 21, true, true⟩, s1 (some p25) (.pick (tm p21) (tm p24) (cn (CV.bool false))) 22, s1 (some p2) (.mv (tm p25)) 23])
  CC.ret)), [CRes.tmp p2]⟩
theorem lit104_ok : fnO tys 104 Tryz.f104 = some lit104 := by kernel_rfl
noncomputable def lit105 : CFn :=
  ⟨105, 17, (CC.seq (CC.run [s1 (some p4) (.mv (cn (CV.bool false))) 0])
  (CC.seq (CC.run [s1 (some p5) (.ld (tm p1)) 0, s1 (some p6) (.mv (tm p0)) 1, s1 (some p7) (.idxAS 1 (tm p5) (tm p6)) 2, s1 (some p8) (.ld (tm p7)) 3, s1 (some p9) (.not (tm p8)) 4, s1 (some p10) (.mv (tm p9)) 5, ⟨(some p11), (.ld (tm p2)), (some (p10, false)), 6, true, true⟩, ⟨(some p12), (.mv (tm p0)), (some (p10, false)), 7, true, true⟩, ⟨(some p13), (.idxAS 1 (tm p11) (tm p12)), (some (p10, false)), 8, true, true⟩, ⟨(some p14), (.ld (tm p13)), (some (p10, false)), 9, true, true⟩, ⟨(some p15), (.not (tm p14)), (some (p10, false)), 10, true, true⟩, s1 (some p16) (.pick (tm p10) (cn (CV.bool true)) (tm p15)) 11, s1 (some p4) (.mv (tm p16)) 12])
  CC.ret)), [CRes.tmp p4]⟩
theorem lit105_ok : fnO tys 105 Tryz.f105 = some lit105 := by kernel_rfl
noncomputable def lit108 : CFn :=
  ⟨108, 23, (CC.seq (CC.run [s1 (some p9) (.mv (tm p2)) 0, s1 (some p10) (.len false (tm p9)) 1, s1 (some p11) (.mv (cn (i6 (nn 0)))) 2])
  (CC.block 0 (CC.loop (CC.seq (CC.run [s1 (some p12) (.bin .lss (tm p11) (tm p10)) 0])
  (CC.seq (CC.cond (tm p12) CC.skip
  (CC.exit 0))
  (CC.seq (CC.block 1 (CC.seq (CC.run [s1 (some p13) (.idxAS 1 (tm p9) (tm p11)) 0, s1 (some p14) (.ld (tm p13)) 1, s1 (some p8) (.mv (tm p14)) 2])
  (CC.run [s1 (some p15) (.ld (tm p3)) 0, s1 (some p16) (.mv (tm p0)) 1, s1 (some p17) (.mv (tm p1)) 2, s1 (some p18) (.mv (tm p8)) 3, s1 (some p19) (.build [(i6 (nn 0)), (CV.str (bs [])), (i6 (nn 0))] [(0, 1, (tm p16)), (1, 1, (tm p17)), (2, 1, (tm p18))]) 4, s1 (some p20) (.bslice 82 3 1 [(i6 (nn 0)), (CV.str (bs [])), (i6 (nn 0))] [(0, 3, (tm p19))]) 5, s1 (some p21) (.app 82 3 32 (tm p15) (tm p20)) 6, s1 none (.st 1 (tm p3) (tm p21)) 7])))
  (CC.run [s1 (some p22) (.bin .add (tm p11) (cn (i6 (nn 1)))) 0, s1 (some p11) (.mv (tm p22)) 1]))))))), []⟩
theorem lit108_ok : fnO tys 108 Tryz.f108 = some lit108 := by kernel_rfl
noncomputable def lit109 : CFn :=
  ⟨109, 132, (CC.seq (CC.run [s1 (some p1) (.box 33 (tm p0)) 0, s1 (some p2) (.new 202 [CV.nilm, CV.nilm, CV.nilm, CV.nilm]) 1])
  (CC.seq (CC.run [s1 (some p19) .mkmap 0, s1 (some p20) .mkmap 1, s1 (some p21) .mkmap 2, s1 (some p22) .mkmap 3, s1 (some p23) (.build [CV.nilm, CV.nilm, CV.nilm, CV.nilm] [(0, 1, (tm p19)), (1, 1, (tm p20)), (2, 1, (tm p21)), (3, 1, (tm p22))]) 4, s1 (some p3) (.new 202 [CV.nilm, CV.nilm, CV.nilm, CV.nilm]) 5, s1 none (.st 4 (tm p3) (tm p23)) 6])
  (CC.seq (CC.seq (CC.run [s1 (some p24) (.fldA 3 (tm p1)) 0, s1 (some p25) (.ld (tm p24)) 1, s1 (some p26) (.len false (tm p25)) 2, s1 (some p27) (.mv (cn (i6 (nn 0)))) 3])
  (CC.block 0 (CC.loop (CC.seq (CC.run [s1 (some p28) (.bin .lss (tm p27) (tm p26)) 0])
  (CC.seq (CC.cond (tm p28) CC.skip
  (CC.exit 0))
  (CC.seq (CC.block 1 (CC.seq (CC.run [s1 (some p29) (.idxAS 11 (tm p25) (tm p27)) 0, s1 (some p30) (.ldn 11 (tm p29)) 1, s1 (some p5) (.new 85 [(CV.str (bs [])), (CV.str (bs [])), (CV.int .u32 (nn 0)), (i6 (nn 0)), (CV.bool false), (CV.str (bs [])), (CV.str (bs [])), (CV.int .u8 (nn 0)), (i6 (nn 0)), (i6 (nn 0)), (CV.bool false)]) 2, s1 none (.st 11 (tm p5) (tm p30)) 3])
  (CC.seq (CC.run [s1 (some p31) (.fldA 0 (tm p3)) 0, s1 (some p32) (.ld (tm p31)) 1, s1 (some p33) (.fldA 5 (tm p5)) 2, s1 (some p34) (.ld (tm p33)) 3, s1 (some p35) (.look KK.str (i6 (nn 0)) false (tm p32) (tm p34)) 4, s1 (some p36) (.bin .add (tm p35) (cn (i6 (nn 1)))) 5, s1 none (.mupd KK.str (tm p32) (tm p34) (tm p36)) 6])
  (CC.run [s1 (some p37) (.fldA 0 (tm p3)) 0, s1 (some p38) (.ld (tm p37)) 1, s1 (some p39) (.fldA 6 (tm p5)) 2, s1 (some p40) (.ld (tm p39)) 3, s1 (some p41) (.look KK.str (i6 (nn 0)) false (tm p38) (tm p40)) 4, s1 (some p42) (.bin .add (tm p41) (cn (i6 (nn 1)))) 5, s1 none (.mupd KK.str (tm p38) (tm p40) (tm p42)) 6]))))
  (CC.run [s1 (some p43) (.bin .add (tm p27) (cn (i6 (nn 1)))) 0, s1 (some p27) (.mv (tm p43)) 1])))))))
  (CC.seq (CC.seq (CC.run [s1 (some p44) (.fldA 5 (tm p1)) 0, s1 (some p45) (.ld (tm p44)) 1, s1 (some p46) (.len false (tm p45)) 2, s1 (some p47) (.mv (cn (i6 (nn 0)))) 3])
  (CC.block 2 (CC.loop (CC.seq (CC.run [s1 (some p48) (.bin .lss (tm p47) (tm p46)) 0])
  (CC.seq (CC.cond (tm p48) CC.skip
  (CC.exit 2))
  (CC.seq (CC.block 3 (CC.seq (CC.run [s1 (some p49) (.idxAS 3 (tm p45) (tm p47)) 0, s1 (some p50) (.ldn 3 (tm p49)) 1, s1 (some p7) (.new 45 [(CV.bool false), (CV.str (bs [])), (CV.int .u32 (nn 0))]) 2, s1 none (.st 3 (tm p7) (tm p50)) 3])
  (CC.run [s1 (some p51) (.fldA 0 (tm p3)) 0, s1 (some p52) (.ld (tm p51)) 1, s1 (some p53) (.fldA 1 (tm p7)) 2, s1 (some p54) (.ld (tm p53)) 3, s1 (some p55) (.look KK.str (i6 (nn 0)) false (tm p52) (tm p54)) 4, s1 (some p56) (.bin .add (tm p55) (cn (i6 (nn 1)))) 5, s1 none (.mupd KK.str (tm p52) (tm p54) (tm p56)) 6])))
  (CC.run [s1 (some p57) (.bin .add (tm p47) (cn (i6 (nn 1)))) 0, s1 (some p47) (.mv (tm p57)) 1])))))))
  (CC.seq (CC.seq (CC.run [s1 (some p58) (.fldA 9 (tm p1)) 0, s1 (some p59) (.ld (tm p58)) 1, s1 (some p60) (.len false (tm p59)) 2, s1 (some p61) (.mv (cn (i6 (nn 0)))) 3])
  (CC.block 4 (CC.loop (CC.seq (CC.run [s1 (some p62) (.bin .lss (tm p61) (tm p60)) 0])
  (CC.seq (CC.cond (tm p62) CC.skip
  (CC.exit 4))
  (CC.seq (CC.block 5 (CC.seq (CC.run [s1 (some p63) (.idxAS 3 (tm p59) (tm p61)) 0, s1 (some p64) (.ldn 3 (tm p63)) 1, s1 (some p9) (.new 95 [(CV.str (bs [])), CV.nils, (CV.bool false)]) 2, s1 none (.st 3 (tm p9) (tm p64)) 3])
  (CC.seq (CC.run [s1 (some p65) (.fldA 1 (tm p9)) 0, s1 (some p66) (.ld (tm p65)) 1, s1 (some p67) (.len false (tm p66)) 2, s1 (some p68) (.mv (cn (i6 (nn 0)))) 3])
  (CC.block 6 (CC.loop (CC.seq (CC.run [s1 (some p69) (.bin .lss (tm p68) (tm p67)) 0])
  (CC.seq (CC.cond (tm p69) CC.skip
  (CC.exit 6))
  (CC.seq (CC.block 7 (CC.seq (CC.run [s1 (some p70) (.idxAS 15 (tm p66) (tm p68)) 0, s1 (some p71) (.ldn 15 (tm p70)) 1, s1 (some p11) (.new 97 [(i6 (nn 0)), (CV.int .u8 (nn 0)), (CV.str (bs [])), (CV.str (bs [])), (i6 (nn 0)), (i6 (nn 0)), (i6 (nn 0)), (i6 (nn 0)), (i6 (nn 0)), (i6 (nn 0)), CV.nils, (CV.bool false), CV.nils, (CV.int .u32 (nn 0)), (i6 (nn 0))]) 2, s1 none (.st 15 (tm p11) (tm p71)) 3])
  (CC.seq (CC.run [s1 (some p72) (.fldA 1 (tm p3)) 0, s1 (some p73) (.ld (tm p72)) 1, s1 (some p74) (.fldA 2 (tm p11)) 2, s1 (some p75) (.ld (tm p74)) 3, s1 (some p76) (.look KK.str (i6 (nn 0)) false (tm p73) (tm p75)) 4, s1 (some p77) (.bin .add (tm p76) (cn (i6 (nn 1)))) 5, s1 none (.mupd KK.str (tm p73) (tm p75) (tm p77)) 6])
  (CC.run [s1 (some p78) (.fldA 2 (tm p3)) 0, s1 (some p79) (.ld (tm p78)) 1, s1 (some p80) (.fldA 3 (tm p11)) 2, s1 (some p81) (.ld (tm p80)) 3, s1 (some p82) (.look KK.str (i6 (nn 0)) false (tm p79) (tm p81)) 4, s1 (some p83) (.bin .add (tm p82) (cn (i6 (nn 1)))) 5, s1 none (.mupd KK.str (tm p79) (tm p81) (tm p83)) 6]))))
  (CC.run [s1 (some p84) (.bin .add (tm p68) (cn (i6 (nn 1)))) 0, s1 (some p68) (.mv (tm p84)) 1])))))))))
  (CC.run [s1 (some p85) (.bin .add (tm p61) (cn (i6 (nn 1)))) 0, s1 (some p61) (.mv (tm p85)) 1])))))))
  (CC.seq (CC.run [s1 (some p86) (.mkfn 200 [] [(tm p3)]) 0, s1 (some p12) (.mv (tm p86)) 1])
  (CC.seq (CC.seq (CC.run [s1 (some p87) (.fldA 10 (tm p1)) 0, s1 (some p88) (.ld (tm p87)) 1, s1 (some p89) (.len false (tm p88)) 2, s1 (some p90) (.mv (cn (i6 (nn 0)))) 3])
  (CC.block 8 (CC.loop (CC.seq (CC.run [s1 (some p91) (.bin .lss (tm p90) (tm p89)) 0])
  (CC.seq (CC.cond (tm p91) CC.skip
  (CC.exit 8))
  (CC.seq (CC.block 9 (CC.seq (CC.run [s1 (some p92) (.idxAS 3 (tm p88) (tm p90)) 0, s1 (some p93) (.ldn 3 (tm p92)) 1, s1 (some p14) (.new 150 [(CV.str (bs [])), (CV.int .u32 (nn 0)), CV.nils]) 2, s1 none (.st 3 (tm p14) (tm p93)) 3])
  (CC.run [s1 (some p94) (.mv (tm p12)) 0, s1 (some p95) (.fldA 2 (tm p14)) 1, s1 (some p96) (.ld (tm p95)) 2, s1 (some p97) (.call (tm p94) [(tm p96)]) 3])))
  (CC.run [s1 (some p98) (.bin .add (tm p90) (cn (i6 (nn 1)))) 0, s1 (some p90) (.mv (tm p98)) 1])))))))
  (CC.seq (CC.seq (CC.run [s1 (some p99) (.fldA 11 (tm p1)) 0, s1 (some p100) (.ld (tm p99)) 1, s1 (some p101) (.len false (tm p100)) 2, s1 (some p102) (.mv (cn (i6 (nn 0)))) 3])
  (CC.block 10 (CC.loop (CC.seq (CC.run [s1 (some p103) (.bin .lss (tm p102) (tm p101)) 0])
  (CC.seq (CC.cond (tm p103) CC.skip
  (CC.exit 10))
  (CC.seq (CC.block 11 (CC.seq (CC.run [s1 (some p104) (.idxAS 6 (tm p100) (tm p102)) 0, s1 (some p105) (.ldn 6 (tm p104)) 1, s1 (some p16) (.new 153 [(CV.str (bs [])), (CV.int .u32 (nn 0)), (CV.int .u32 (nn 0)), CV.nils, CV.nils, CV.nils]) 2, s1 none (.st 6 (tm p16) (tm p105)) 3])
  (CC.seq (CC.run [s1 (some p106) (.mv (tm p12)) 0, s1 (some p107) (.fldA 5 (tm p16)) 1, s1 (some p108) (.ld (tm p107)) 2, s1 (some p109) (.call (tm p106) [(tm p108)]) 3])
  (CC.seq (CC.run [s1 (some p110) (.fldA 4 (tm p16)) 0, s1 (some p111) (.ld (tm p110)) 1, s1 (some p112) (.len false (tm p111)) 2, s1 (some p113) (.mv (cn (i6 (nn 0)))) 3])
  (CC.block 12 (CC.loop (CC.seq (CC.run [s1 (some p114) (.bin .lss (tm p113) (tm p112)) 0])
  (CC.seq (CC.cond (tm p114) CC.skip
  (CC.exit 12))
  (CC.seq (CC.block 13 (CC.seq (CC.run [s1 (some p115) (.idxAS 6 (tm p111) (tm p113)) 0, s1 (some p116) (.ldn 6 (tm p115)) 1, s1 (some p18) (.new 256 [(CV.int .u32 (nn 0)), (CV.int .u32 (nn 0)), (CV.str (bs [])), (CV.str (bs [])), (CV.bool false), (CV.bool false)]) 2, s1 none (.st 6 (tm p18) (tm p116)) 3])
  (CC.seq (CC.run [s1 (some p117) (.fldA 3 (tm p3)) 0, s1 (some p118) (.ld (tm p117)) 1, s1 (some p119) (.fldA 2 (tm p18)) 2, s1 (some p120) (.ld (tm p119)) 3, s1 (some p121) (.look KK.str (i6 (nn 0)) false (tm p118) (tm p120)) 4, s1 (some p122) (.bin .add (tm p121) (cn (i6 (nn 1)))) 5, s1 none (.mupd KK.str (tm p118) (tm p120) (tm p122)) 6])
  (CC.run [s1 (some p123) (.fldA 3 (tm p3)) 0, s1 (some p124) (.ld (tm p123)) 1, s1 (some p125) (.fldA 3 (tm p18)) 2, s1 (some p126) (.ld (tm p125)) 3, s1 (some p127) (.look KK.str (i6 (nn 0)) false (tm p124) (tm p126)) 4, s1 (some p128) (.bin .add (tm p127) (cn (i6 (nn 1)))) 5, s1 none (.mupd KK.str (tm p124) (tm p126) (tm p128)) 6]))))
  (CC.run [s1 (some p129) (.bin .add (tm p113) (cn (i6 (nn 1)))) 0, s1 (some p113) (.mv (tm p129)) 1]))))))))))
  (CC.run [s1 (some p130) (.bin .add (tm p102) (cn (i6 (nn 1)))) 0, s1 (some p102) (.mv (tm p130)) 1])))))))
  (CC.seq (CC.run [s1 (some p131) (.ldn 4 (tm p3)) 0, s1 none (.st 4 (tm p2) (tm p131)) 1])
  CC.ret))))))))), [CRes.cell p2 (some 4)]⟩
theorem lit109_ok : fnO tys 109 Tryz.f109 = some lit109 := by kernel_rfl
noncomputable def lit110 : CFn :=
  ⟨110, 20, (CC.seq (CC.run [s1 (some p7) (.mv (tm p2)) 0, s1 (some p8) (.bin .eql (tm p7) (cn (CV.str (bs [])))) 1, s1 (some p9) (.mv (tm p8)) 2, ⟨(some p10), (.mv (tm p1)), (some (p9, false)), 3, true, true⟩, ⟨(some p11), (.mv (tm p2)), (some (p9, false)), 4, true, true⟩, ⟨(some p12), (.look KK.str (i6 (nn 0)) false (tm p10) (tm p11)), (some (p9, false)), 5, true, true⟩, ⟨(some p13), (.bin .eql (tm p12) (cn (i6 (nn 0)))), (some (p9, false)), 6, true, true⟩, s1 (some p14) (.pick (tm p9) (cn (CV.bool true)) (tm p13)) 7])
  (CC.cond (tm p14) (CC.run [s1 (some p15) (.ld (tm p3)) 0, s1 (some p16) (.mv (tm p0)) 1, s1 (some p17) (.mv (tm p2)) 2, s1 (some p18) (.bslice 3 1 1 [(i6 (nn 0))] [(0, 1, (cn (i6 (nn 0))))]) 3, s1 (some p19) (.call (tm p15) [(tm p16), (tm p17), (tm p18)]) 4])
  CC.skip)), []⟩
theorem lit110_ok : fnO tys 110 Tryz.f110 = some lit110 := by kernel_rfl
noncomputable def lit115 : CFn :=
  ⟨115, 6, (CC.seq (CC.run [s1 (some p1) (.box 92 (tm p0)) 0, s1 (some p2) (.mv (cn (CV.bool false))) 1])
  (CC.seq (CC.run [s1 (some p3) (.ldn 10 (tm p1)) 0, s1 (some p4) (.call (cn (CV.fn 116 [] [])) [(tm p3)]) 1, s1 (some p5) (.not (tm p4)) 2, s1 (some p2) (.mv (tm p5)) 3])
  CC.ret)), [CRes.tmp p2]⟩
theorem lit115_ok : fnO tys 115 Tryz.f115 = some lit115 := by kernel_rfl
noncomputable def lit116 : CFn :=
  ⟨116, 33, (CC.seq (CC.run [s1 (some p1) (.box 92 (tm p0)) 0, s1 (some p2) (.mv (cn (CV.bool false))) 1])
  (CC.seq (CC.run [s1 (some p3) (.fldA 1 (tm p1)) 0, s1 (some p4) (.ld (tm p3)) 1, s1 (some p5) (.bin .geq (tm p4) (cn (i6 (Int.negSucc 0)))) 2, s1 (some p6) (.mv (tm p5)) 3, ⟨(some p7), (.fldA 1 (tm p1)), (some (p6, true)), 4, true, true⟩, ⟨(some p8), (.ld (tm p7)), (some (p6, true)), 5, true, true⟩, ⟨(some p9), (.bin .leq (tm p8) (cn (i6 (nn 255)))), (some (p6, true)), 6, true, true⟩, s1 (some p10) (.pick (tm p6) (tm p9) (cn (CV.bool false))) 7, s1 (some p11) (.mv (tm p10)) 8, ⟨(some p12), (.fldA 2 (tm p1)), (some (p11, true)), 9, true, true⟩, ⟨(some p13), (.ldn 2 (tm p12)), (some (p11, true)), 10, true, true⟩, ⟨(some p14), (.call (cn (CV.fn 122 [] [])) [(tm p13)]), (some (p11, true)), 11, true, true⟩, ⟨(some p15), (.bin .eql (tm p14) (cn (i6 (nn 0)))), (some (p11, true)), 12, true, true⟩, s1 (some p16) (.pick (tm p11) (tm p15) (cn (CV.bool false))) 13, s1 (some p17) (.mv (tm p16)) 14, ⟨(some p18), (.fldA 4 (tm p1)), (some (p17, true)), 15, true, true⟩, ⟨(some p19), (.ldn 2 (tm p18)), (some (p17, true)), 16, true, true⟩, ⟨(some p20), (.call (cn (CV.fn 122 [] [])) [(tm p19)]), (some (p17, true)), 17, true, true⟩, ⟨(some p21), (.bin .eql (tm p20) (cn (i6 (nn 0)))), (some (p17, true)), 18, true, true⟩, s1 (some p22) (.pick (tm p17) (tm p21) (cn (CV.bool false))) 19, s1 (some p23) (.mv (tm p22)) 20, ⟨(some p24), (.fldA 6 (tm p1)), (some (p23, true)), 21, true, true⟩, ⟨(some p25), (.ldn 2 (tm p24)), (some (p23, true)), 22, true, true⟩, ⟨(some p26), (.call (cn (CV.fn 206 [] [])) [(tm p25)]), (some (p23, true)), 23, true, true⟩, s1 (some p27) (.pick (tm p23) (tm p26) (cn (CV.bool false))) 24, s1 (some p28) (.mv (tm p27)) 25, ⟨(some p29), (.fldA 8 (tm p1)), (some (p28, true)), 26, true, true⟩, ⟨(some p30), (.ldn 2 (tm p29)), (some (p28, true)), 27, true, true⟩, ⟨(some p31), (.call (cn (CV.fn 206 [] [])) [(tm p30)]), (some (p28, true)), 28, true, true⟩, s1 (some p32) (.pick (tm p28) (tm p31) (cn (CV.bool false))) 29, s1 (some p2) (.mv (tm p32)) 30])
  CC.ret)), [CRes.tmp p2]⟩
theorem lit116_ok : fnO tys 116 Tryz.f116 = some lit116 := by kernel_rfl
noncomputable def lit117 : CFn :=
  ⟨117, 8, (CC.seq (CC.run [s1 (some p2) (.mv (cn CV.nils)) 0])
  (CC.seq (CC.seq (CC.run [s1 (some p3) (.mv (tm p0)) 0, s1 (some p4) (.eqs false EK.slice (tm p3) (cn CV.nils)) 1])
  (CC.cond (tm p4) (CC.seq (CC.run [s1 (some p2) (.mv (cn CV.nils)) 0])
  CC.ret)
  CC.skip))
  (CC.seq (CC.run [s1 (some p5) (.bslice 92 10 0 [] []) 0, s1 (some p6) (.mv (tm p0)) 1, s1 (some p7) (.app 92 10 64 (tm p5) (tm p6)) 2, s1 (some p2) (.mv (tm p7)) 3])
  CC.ret))), [CRes.tmp p2]⟩
theorem lit117_ok : fnO tys 117 Tryz.f117 = some lit117 := by kernel_rfl
noncomputable def lit118 : CFn :=
  ⟨118, 25, (CC.seq (CC.run [s1 (some p8) (.mv (cn (i6 (nn 0)))) 0, s1 (some p9) (.mv (cn (i6 (nn 0)))) 1])
  (CC.seq (CC.seq (CC.run [s1 (some p11) (.mv (tm p0)) 0, s1 (some p12) (.mv (tm p1)) 1, s1 (some p13) (.mv (tm p2)) 2, s1 (some p14) (.bslice 3 1 2 [(i6 (nn 0)), (i6 (nn 0))] [(0, 1, (tm p12)), (1, 1, (tm p13))]) 3, s1 (some p15) (.call (cn (CV.fn 207 [] [])) [(tm p11), (tm p14), (cn CV.nils)]) 4, s1 (some p10) (.mv (tm p15)) 5])
  (CC.seq (CC.run [s1 (some p16) (.mv (tm p10)) 0, s1 (some p17) (.bin .neq (tm p16) (cn (i6 (nn 0)))) 1])
  (CC.cond (tm p17) (CC.seq (CC.run [s1 (some p18) (.mv (tm p10)) 0, s1 (some p8) (.mv (cn (i6 (nn 0)))) 1, s1 (some p9) (.mv (tm p18)) 2])
  CC.ret)
  CC.skip)))
  (CC.seq (CC.run [s1 (some p19) (.mv (tm p3)) 0, s1 (some p20) (.mv (tm p1)) 1, s1 (some p21) (.mv (tm p2)) 2, s1 (some p22) (.call (tm p19) [(tm p20), (tm p21)]) 3, s1 (some p23) (.extr (tm p22) 0) 4, s1 (some p24) (.extr (tm p22) 1) 5, s1 (some p8) (.mv (tm p23)) 6, s1 (some p9) (.mv (tm p24)) 7])
  CC.ret))), [CRes.tmp p8, CRes.tmp p9]⟩
theorem lit118_ok : fnO tys 118 Tryz.f118 = some lit118 := by kernel_rfl
noncomputable def lit119 : CFn :=
  ⟨119, 16, (CC.seq (CC.run [s1 (some p5) (.mv (cn (i6 (nn 0)))) 0, s1 (some p6) (.mv (cn (i6 (nn 0)))) 1])
  (CC.seq (CC.run [s1 (some p7) (.ld (tm p2)) 0, s1 (some p8) (.nilck (tm p7)) 1, s1 (some p9) (.fldA 0 (tm p8)) 2, s1 (some p10) (.ld (tm p9)) 3, s1 (some p11) (.mv (tm p1)) 4, s1 (some p12) (.mv (tm p0)) 5, s1 (some p13) (.call (cn (CV.fn 120 [] [])) [(tm p10), (tm p11), (cn (i6 (nn 0))), (tm p12)]) 6, s1 (some p14) (.extr (tm p13) 0) 7, s1 (some p15) (.extr (tm p13) 1) 8, s1 (some p5) (.mv (tm p14)) 9, s1 (some p6) (.mv (tm p15)) 10])
  CC.ret)), [CRes.tmp p5, CRes.tmp p6]⟩
theorem lit119_ok : fnO tys 119 Tryz.f119 = some lit119 := by kernel_rfl
noncomputable def lit120 : CFn :=
  ⟨120, 32, (CC.seq (CC.run [s1 (some p8) (.mv (cn (i6 (nn 0)))) 0, s1 (some p9) (.mv (cn (i6 (nn 0)))) 1])
  (CC.seq (CC.seq (CC.run [s1 (some p11) (.mv (tm p0)) 0, s1 (some p12) (.mv (tm p1)) 1, s1 (some p13) (.mv (tm p2)) 2, s1 (some p14) (.mv (tm p3)) 3, s1 (some p15) (.bslice 3 1 3 [(i6 (nn 0)), (i6 (nn 0)), (i6 (nn 0))] [(0, 1, (tm p12)), (1, 1, (tm p13)), (2, 1, (tm p14))]) 4, s1 (some p16) (.call (cn (CV.fn 208 [] [])) [(tm p11), (tm p15)]) 5, s1 (some p10) (.mv (tm p16)) 6])
  (CC.seq (CC.run [s1 (some p17) (.mv (tm p10)) 0, s1 (some p18) (.bin .neq (tm p17) (cn (i6 (nn 0)))) 1])
  (CC.cond (tm p18) (CC.seq (CC.run [s1 (some p19) (.mv (tm p10)) 0, s1 (some p8) (.mv (cn (i6 (nn 0)))) 1, s1 (some p9) (.mv (tm p19)) 2])
  CC.ret)
  CC.skip)))
  (CC.seq (CC.run [s1 (some p20) (.mv (tm p0)) 0, s1 (some p21) (.mv (tm p0)) 1, s1 (some p22) (.mv (tm p1)) 2, s1 (some p23) (.conv .i32 (tm p22)) 3, s1 (some p24) (.mv (tm p2)) 4, s1 (some p25) (.conv .i32 (tm p24)) 5, s1 (some p26) (.mv (tm p3)) 6, s1 (some p27) (.conv .i32 (tm p26)) 7, s1 (some p28) (.call (cn (CV.fn 210 [] [])) [(tm p21), (tm p23), (tm p25), (tm p27)]) 8, s1 (some p29) (.call (cn (CV.fn 209 [] [])) [(tm p20), (tm p28)]) 9, s1 (some p30) (.extr (tm p29) 0) 10, s1 (some p31) (.extr (tm p29) 1) 11, s1 (some p8) (.mv (tm p30)) 12, s1 (some p9) (.mv (tm p31)) 13])
  CC.ret))), [CRes.tmp p8, CRes.tmp p9]⟩
theorem lit120_ok : fnO tys 120 Tryz.f120 = some lit120 := by kernel_rfl
noncomputable def lit121 : CFn :=
  ⟨121, 14, (CC.seq (CC.run [s1 (some p6) (.mv (cn (i6 (nn 0)))) 0, s1 (some p7) (.mv (cn (i6 (nn 0)))) 1])
  (CC.seq (CC.run [s1 (some p8) (.mv (tm p0)) 0, s1 (some p9) (.mv (tm p1)) 1, s1 (some p10) (.mv (tm p2)) 2, s1 (some p11) (.call (cn (CV.fn 120 [] [])) [(tm p8), (tm p9), (cn (i6 (nn 1))), (tm p10)]) 3, s1 (some p12) (.extr (tm p11) 0) 4, s1 (some p13) (.extr (tm p11) 1) 5, s1 (some p6) (.mv (tm p12)) 6, s1 (some p7) (.mv (tm p13)) 7])
  CC.ret)), [CRes.tmp p6, CRes.tmp p7]⟩
theorem lit121_ok : fnO tys 121 Tryz.f121 = some lit121 := by kernel_rfl
noncomputable def lit122 : CFn :=
  ⟨122, 20, (CC.seq (CC.run [s1 (some p1) (.box 63 (tm p0)) 0, s1 (some p2) (.mv (cn (i6 (nn 0)))) 1])
  (CC.seq (CC.block 0 (CC.seq (CC.run [s1 (some p4) (.fldA 1 (tm p1)) 0, s1 (some p5) (.ld (tm p4)) 1, s1 (some p6) (.bin .lss (tm p5) (cn (i6 (nn 0)))) 2, s1 (some p7) (.mv (tm p6)) 3, ⟨(some p8), (.fldA 1 (tm p1)), (some (p7, false)), 4, true, true⟩, ⟨(some p9), (.ld (tm p8)), (some (p7, false)), 5, true, true⟩, ⟨(some p10), (.bin .gtr (tm p9) (cn (i6 (nn 32)))), (some (p7, false)), 6, true, true⟩, s1 (some p11) (.pick (tm p7) (cn (CV.bool true)) (tm p10)) 7, s1 (some p3) (.mv (tm p11)) 8])
  (CC.cond (tm p3) (CC.seq (CC.run [s1 (some p2) (.mv (cn (i6 (nn 1)))) 0])
  CC.ret)
  (CC.seq (CC.draw [] [⟨(some p13), (.fldA 0 (tm p1)), none, 0, false, false⟩, ⟨(some p14), (.ld (tm p13)), none, 1, false, false⟩, s1 (some p15) (.fldA 1 (tm p1)) 2, s1 (some p16) (.ld (tm p15)) 3, s1 (some p17) (.call (cn (CV.fn 123 [] [])) [(tm p16)]) 4, s1 (some p18) (.bin .and (tm p14) (tm p17)) 5, s1 (some p19) (.bin .neq (tm p18) (cn (CV.int .u32 (nn 0)))) 6, s1 (some p12) (.mv (tm p19)) 7])
  (CC.cond (tm p12) (CC.seq (CC.run [s1 (some p2) (.mv (cn (i6 (nn 10)))) 0])
  CC.ret)
  CC.skip)))))
  (CC.seq (CC.run [s1 (some p2) (.mv (cn (i6 (nn 0)))) 0])
  CC.ret))), [CRes.tmp p2]⟩
theorem lit122_ok : fnO tys 122 Tryz.f122 = some lit122 := by kernel_rfl
noncomputable def lit123 : CFn :=
  ⟨123, 8, (CC.seq (CC.run [s1 (some p2) (.mv (cn (CV.int .u32 (nn 0)))) 0])
  (CC.seq (CC.run [s1 (some p3) (.mv (tm p0)) 0, s1 (some p4) (.bin .sub (cn (i6 (nn 32))) (tm p3)) 1, s1 (some p5) (.bin .shl (cn (CV.int .u64 (nn 1))) (tm p4)) 2, s1 (some p6) (.bin .sub (tm p5) (cn (CV.int .u64 (nn 1)))) 3, s1 (some p7) (.conv .u32 (tm p6)) 4, s1 (some p2) (.mv (tm p7)) 5])
  CC.ret)), [CRes.tmp p2]⟩
theorem lit123_ok : fnO tys 123 Tryz.f123 = some lit123 := by kernel_rfl
noncomputable def lit124 : CFn :=
  ⟨124, 49, (CC.seq (CC.run [s1 (some p4) (.mv (cn CV.nils)) 0])
  (CC.seq (CC.run [s1 (some p5) (.mv (cn CV.nils)) 0])
  (CC.seq (CC.seq (CC.run [s1 (some p11) (.mv (tm p0)) 0, s1 (some p12) (.call (cn (CV.fn 126 [] [])) [(tm p11)]) 1, s1 (some p13) (.len false (tm p12)) 2, s1 (some p14) (.mv (cn (i6 (nn 0)))) 3])
  (CC.block 0 (CC.loop (CC.seq (CC.run [s1 (some p15) (.bin .lss (tm p14) (tm p13)) 0])
  (CC.seq (CC.cond (tm p15) CC.skip
  (CC.exit 0))
  (CC.seq (CC.block 1 (CC.seq (CC.run [s1 (some p16) (.idxAS 2 (tm p12) (tm p14)) 0, s1 (some p17) (.ldn 2 (tm p16)) 1, s1 (some p7) (.new 90 [(CV.int .u32 (nn 0)), (CV.int .u32 (nn 0))]) 2, s1 none (.st 2 (tm p7) (tm p17)) 3])
  (CC.seq (CC.run [s1 (some p18) (.mv (tm p1)) 0, s1 (some p19) (.call (cn (CV.fn 126 [] [])) [(tm p18)]) 1, s1 (some p20) (.len false (tm p19)) 2, s1 (some p21) (.mv (cn (i6 (nn 0)))) 3])
  (CC.block 2 (CC.loop (CC.seq (CC.run [s1 (some p22) (.bin .lss (tm p21) (tm p20)) 0])
  (CC.seq (CC.cond (tm p22) CC.skip
  (CC.exit 2))
  (CC.seq (CC.block 3 (CC.seq (CC.run [s1 (some p23) (.idxAS 2 (tm p19) (tm p21)) 0, s1 (some p24) (.ldn 2 (tm p23)) 1, s1 (some p9) (.new 90 [(CV.int .u32 (nn 0)), (CV.int .u32 (nn 0))]) 2, s1 none (.st 2 (tm p9) (tm p24)) 3])
  (CC.seq (CC.run [s1 (some p25) (.fldA 0 (tm p7)) 0, s1 (some p26) (.ld (tm p25)) 1, s1 (some p27) (.fldA 0 (tm p9)) 2, s1 (some p28) (.ld (tm p27)) 3, s1 (some p29) (.minmax true [(tm p26), (tm p28)]) 4, s1 (some p30) (.fldA 1 (tm p7)) 5, s1 (some p31) (.ld (tm p30)) 6, s1 (some p32) (.fldA 1 (tm p9)) 7, s1 (some p33) (.ld (tm p32)) 8, s1 (some p34) (.minmax false [(tm p31), (tm p33)]) 9, s1 (some p35) (.build [(CV.int .u32 (nn 0)), (CV.int .u32 (nn 0))] [(0, 1, (tm p29)), (1, 1, (tm p34))]) 10, s1 (some p10) (.new 90 [(CV.int .u32 (nn 0)), (CV.int .u32 (nn 0))]) 11, s1 none (.st 2 (tm p10) (tm p35)) 12])
  (CC.seq (CC.run [s1 (some p36) (.fldA 0 (tm p10)) 0, s1 (some p37) (.ld (tm p36)) 1, s1 (some p38) (.fldA 1 (tm p10)) 2, s1 (some p39) (.ld (tm p38)) 3, s1 (some p40) (.bin .leq (tm p37) (tm p39)) 4])
  (CC.cond (tm p40) (CC.run [s1 (some p41) (.mv (tm p5)) 0, s1 (some p42) (.ldn 2 (tm p10)) 1, s1 (some p43) (.bslice 90 2 1 [(CV.int .u32 (nn 0)), (CV.int .u32 (nn 0))] [(0, 2, (tm p42))]) 2, s1 (some p44) (.app 90 2 8 (tm p41) (tm p43)) 3, s1 (some p5) (.mv (tm p44)) 4])
  CC.skip)))))
  (CC.run [s1 (some p45) (.bin .add (tm p21) (cn (i6 (nn 1)))) 0, s1 (some p21) (.mv (tm p45)) 1])))))))))
  (CC.run [s1 (some p46) (.bin .add (tm p14) (cn (i6 (nn 1)))) 0, s1 (some p14) (.mv (tm p46)) 1])))))))
  (CC.seq (CC.run [s1 (some p47) (.mv (tm p5)) 0, s1 (some p48) (.call (cn (CV.fn 126 [] [])) [(tm p47)]) 1, s1 (some p4) (.mv (tm p48)) 2])
  CC.ret)))), [CRes.tmp p4]⟩
theorem lit124_ok : fnO tys 124 Tryz.f124 = some lit124 := by kernel_rfl
noncomputable def lit125 : CFn :=
  ⟨125, 55, (CC.seq (CC.run [s1 (some p4) (.mv (cn CV.nils)) 0])
  (CC.seq (CC.run [s1 (some p5) (.mv (cn CV.nils)) 0])
  (CC.seq (CC.run [s1 (some p6) (.mv (cn (CV.int .u64 (nn 0)))) 0])
  (CC.seq (CC.seq (CC.run [s1 (some p9) (.mv (tm p0)) 0, s1 (some p10) (.call (cn (CV.fn 126 [] [])) [(tm p9)]) 1, s1 (some p11) (.len false (tm p10)) 2, s1 (some p12) (.mv (cn (i6 (nn 0)))) 3])
  (CC.block 0 (CC.loop (CC.seq (CC.run [s1 (some p13) (.bin .lss (tm p12) (tm p11)) 0])
  (CC.seq (CC.cond (tm p13) CC.skip
  (CC.exit 0))
  (CC.seq (CC.block 1 (CC.seq (CC.run [s1 (some p14) (.idxAS 2 (tm p10) (tm p12)) 0, s1 (some p15) (.ldn 2 (tm p14)) 1, s1 (some p8) (.new 90 [(CV.int .u32 (nn 0)), (CV.int .u32 (nn 0))]) 2, s1 none (.st 2 (tm p8) (tm p15)) 3])
  (CC.seq (CC.seq (CC.run [s1 (some p16) (.fldA 0 (tm p8)) 0, s1 (some p17) (.ld (tm p16)) 1, s1 (some p18) (.conv .u64 (tm p17)) 2, s1 (some p19) (.mv (tm p6)) 3, s1 (some p20) (.bin .gtr (tm p18) (tm p19)) 4, s1 (some p21) (.mv (tm p20)) 5, ⟨(some p22), (.mv (tm p6)), (some (p21, true)), 6, true, true⟩, ⟨(some p23), (.mv (tm p1)), (some (p21, true)), 7, true, true⟩, ⟨(some p24), (.conv .u64 (tm p23)), (some (p21, true)), 8, true, true⟩, ⟨(some p25), (.bin .leq (tm p22) (tm p24)), (some (p21, true)), 9, true, true⟩, s1 (some p26) (.pick (tm p21) (tm p25) (cn (CV.bool false))) 10])
  (CC.cond (tm p26) (CC.run [s1 (some p27) (.mv (tm p5)) 0, s1 (some p28) (.mv (tm p6)) 1, s1 (some p29) (.conv .u32 (tm p28)) 2, s1 (some p30) (.fldA 0 (tm p8)) 3, s1 (some p31) (.ld (tm p30)) 4, s1 (some p32) (.bin .sub (tm p31) (cn (CV.int .u32 (nn 1)))) 5, s1 (some p33) (.mv (tm p1)) 6, s1 (some p34) (.minmax false [(tm p32), (tm p33)]) 7, s1 (some p35) (.build [(CV.int .u32 (nn 0)), (CV.int .u32 (nn 0))] [(0, 1, (tm p29)), (1, 1, (tm p34))]) 8, s1 (some p36) (.bslice 90 2 1 [(CV.int .u32 (nn 0)), (CV.int .u32 (nn 0))] [(0, 2, (tm p35))]) 9, s1 (some p37) (.app 90 2 8 (tm p27) (tm p36)) 10, s1 (some p5) (.mv (tm p37)) 11])
  CC.skip))
  (CC.run [s1 (some p38) (.fldA 1 (tm p8)) 0, s1 (some p39) (.ld (tm p38)) 1, s1 (some p40) (.conv .u64 (tm p39)) 2, s1 (some p41) (.bin .add (tm p40) (cn (CV.int .u64 (nn 1)))) 3, s1 (some p6) (.mv (tm p41)) 4]))))
  (CC.run [s1 (some p42) (.bin .add (tm p12) (cn (i6 (nn 1)))) 0, s1 (some p12) (.mv (tm p42)) 1])))))))
  (CC.seq (CC.seq (CC.run [s1 (some p43) (.mv (tm p6)) 0, s1 (some p44) (.mv (tm p1)) 1, s1 (some p45) (.conv .u64 (tm p44)) 2, s1 (some p46) (.bin .leq (tm p43) (tm p45)) 3])
  (CC.cond (tm p46) (CC.run [s1 (some p47) (.mv (tm p5)) 0, s1 (some p48) (.mv (tm p6)) 1, s1 (some p49) (.conv .u32 (tm p48)) 2, s1 (some p50) (.mv (tm p1)) 3, s1 (some p51) (.build [(CV.int .u32 (nn 0)), (CV.int .u32 (nn 0))] [(0, 1, (tm p49)), (1, 1, (tm p50))]) 4, s1 (some p52) (.bslice 90 2 1 [(CV.int .u32 (nn 0)), (CV.int .u32 (nn 0))] [(0, 2, (tm p51))]) 5, s1 (some p53) (.app 90 2 8 (tm p47) (tm p52)) 6, s1 (some p5) (.mv (tm p53)) 7])
  CC.skip))
  (CC.seq (CC.run [s1 (some p54) (.mv (tm p5)) 0, s1 (some p4) (.mv (tm p54)) 1])
  CC.ret)))))), [CRes.tmp p4]⟩
theorem lit125_ok : fnO tys 125 Tryz.f125 = some lit125 := by kernel_rfl
noncomputable def lit126 : CFn :=
  ⟨126, 79, (CC.seq (CC.run [s1 (some p2) (.mv (cn CV.nils)) 0])
  (CC.seq (CC.run [s1 (some p3) (.mv (cn CV.nils)) 0])
  (CC.seq (CC.seq (CC.run [s1 (some p10) (.mv (tm p0)) 0, s1 (some p11) (.len false (tm p10)) 1, s1 (some p12) (.mv (cn (i6 (nn 0)))) 2])
  (CC.block 0 (CC.loop (CC.seq (CC.run [s1 (some p13) (.bin .lss (tm p12) (tm p11)) 0])
  (CC.seq (CC.cond (tm p13) CC.skip
  (CC.exit 0))
  (CC.seq (CC.block 1 (CC.seq (CC.run [s1 (some p14) (.idxAS 2 (tm p10) (tm p12)) 0, s1 (some p15) (.ldn 2 (tm p14)) 1, s1 (some p5) (.new 90 [(CV.int .u32 (nn 0)), (CV.int .u32 (nn 0))]) 2, s1 none (.st 2 (tm p5) (tm p15)) 3])
  (CC.seq (CC.run [s1 (some p16) (.fldA 0 (tm p5)) 0, s1 (some p17) (.ld (tm p16)) 1, s1 (some p18) (.fldA 1 (tm p5)) 2, s1 (some p19) (.ld (tm p18)) 3, s1 (some p20) (.bin .leq (tm p17) (tm p19)) 4])
  (CC.cond (tm p20) (CC.run [s1 (some p21) (.mv (tm p3)) 0, s1 (some p22) (.ldn 2 (tm p5)) 1, s1 (some p23) (.bslice 90 2 1 [(CV.int .u32 (nn 0)), (CV.int .u32 (nn 0))] [(0, 2, (tm p22))]) 2, s1 (some p24) (.app 90 2 8 (tm p21) (tm p23)) 3, s1 (some p3) (.mv (tm p24)) 4])
  CC.skip))))
  (CC.run [s1 (some p25) (.bin .add (tm p12) (cn (i6 (nn 1)))) 0, s1 (some p12) (.mv (tm p25)) 1])))))))
  (CC.seq (CC.run [s1 (some p26) (.mv (tm p3)) 0, s1 (some p27) (.call (cn (CV.fn 211 [] [])) [(tm p26), (cn (CV.fn 212 [] []))]) 1])
  (CC.seq (CC.run [s1 (some p6) (.mv (cn CV.nils)) 0])
  (CC.seq (CC.seq (CC.run [s1 (some p28) (.mv (tm p3)) 0, s1 (some p29) (.len false (tm p28)) 1, s1 (some p30) (.mv (cn (i6 (nn 0)))) 2])
  (CC.block 2 (CC.loop (CC.seq (CC.run [s1 (some p31) (.bin .lss (tm p30) (tm p29)) 0])
  (CC.seq (CC.cond (tm p31) CC.skip
  (CC.exit 2))
  (CC.seq (CC.block 3 (CC.seq (CC.run [s1 (some p32) (.idxAS 2 (tm p28) (tm p30)) 0, s1 (some p33) (.ldn 2 (tm p32)) 1, s1 (some p8) (.new 90 [(CV.int .u32 (nn 0)), (CV.int .u32 (nn 0))]) 2, s1 none (.st 2 (tm p8) (tm p33)) 3])
  (CC.seq (CC.seq (CC.run [s1 (some p34) (.mv (tm p6)) 0, s1 (some p35) (.len false (tm p34)) 1, s1 (some p9) (.mv (tm p35)) 2])
  (CC.seq (CC.draw [] [s1 (some p36) (.mv (tm p9)) 0, s1 (some p37) (.bin .gtr (tm p36) (cn (i6 (nn 0)))) 1, s1 (some p38) (.mv (tm p37)) 2, ⟨(some p39), (.mv (tm p6)), (some (p38, true)), 3, false, true⟩, ⟨(some p40), (.mv (tm p9)), (some (p38, true)), 4, true, true⟩, ⟨(some p41), (.bin .sub (tm p40) (cn (i6 (nn 1)))), (some (p38, true)), 5, true, true⟩, ⟨(some p42), (.idxAS 2 (tm p39) (tm p41)), (some (p38, true)), 6, true, true⟩, ⟨(some p43), (.fldA 1 (tm p42)), (some (p38, true)), 7, true, true⟩, ⟨(some p44), (.ld (tm p43)), (some (p38, true)), 8, true, true⟩, ⟨(some p45), (.bin .eql (tm p44) (cn (CV.int .u32 (nn 4294967295)))), (some (p38, true)), 9, true, true⟩, ⟨(some p46), (.mv (tm p45)), (some (p38, true)), 10, true, true⟩, ⟨(some p47), (.fldA 0 (tm p8)), (some (p46, false)), 11, false, true⟩, ⟨(some p48), (.ld (tm p47)), (some (p46, false)), 12, false, true⟩, ⟨(some p49), (.mv (tm p6)), (some (p46, false)), 13, false, true⟩, ⟨(some p50), (.mv (tm p9)), (some (p46, false)), 14, true, true⟩, ⟨(some p51), (.bin .sub (tm p50) (cn (i6 (nn 1)))), (some (p46, false)), 15, true, true⟩, ⟨(some p52), (.idxAS 2 (tm p49) (tm p51)), (some (p46, false)), 16, true, true⟩, ⟨(some p53), (.fldA 1 (tm p52)), (some (p46, false)), 17, true, true⟩, ⟨(some p54), (.ld (tm p53)), (some (p46, false)), 18, true, true⟩, ⟨(some p55), (.bin .add (tm p54) (cn (CV.int .u32 (nn 1)))), (some (p46, false)), 19, true, true⟩, ⟨(some p56), (.bin .leq (tm p48) (tm p55)), (some (p46, false)), 20, true, true⟩, ⟨(some p57), (.pick (tm p46) (cn (CV.bool true)) (tm p56)), (some (p38, true)), 21, true, true⟩, s1 (some p58) (.pick (tm p38) (tm p57) (cn (CV.bool false))) 22])
  (CC.cond (tm p58) (CC.seq (CC.draw [] [⟨(some p59), (.mv (tm p6)), none, 0, false, true⟩, ⟨(some p60), (.mv (tm p9)), none, 1, false, true⟩, ⟨(some p61), (.bin .sub (tm p60) (cn (i6 (nn 1)))), none, 2, false, true⟩, ⟨(some p62), (.mv (tm p6)), none, 3, false, true⟩, ⟨(some p63), (.mv (tm p9)), none, 4, false, true⟩, ⟨(some p64), (.bin .sub (tm p63) (cn (i6 (nn 1)))), none, 5, false, true⟩, ⟨(some p65), (.idxAS 2 (tm p62) (tm p64)), none, 6, false, true⟩, ⟨(some p66), (.fldA 1 (tm p65)), none, 7, false, true⟩, ⟨(some p67), (.ld (tm p66)), none, 8, false, true⟩, s1 (some p68) (.fldA 1 (tm p8)) 9, s1 (some p69) (.ld (tm p68)) 10, s1 (some p70) (.minmax true [(tm p67), (tm p69)]) 11, s1 (some p71) (.idxAS 2 (tm p59) (tm p61)) 12, s1 (some p72) (.fldA 1 (tm p71)) 13, s1 none (.st 1 (tm p72) (tm p70)) 14])
  (CC.exit 3))
  CC.skip)))
  (CC.run [s1 (some p73) (.mv (tm p6)) 0, s1 (some p74) (.ldn 2 (tm p8)) 1, s1 (some p75) (.bslice 90 2 1 [(CV.int .u32 (nn 0)), (CV.int .u32 (nn 0))] [(0, 2, (tm p74))]) 2, s1 (some p76) (.app 90 2 8 (tm p73) (tm p75)) 3, s1 (some p6) (.mv (tm p76)) 4]))))
  (CC.run [s1 (some p77) (.bin .add (tm p30) (cn (i6 (nn 1)))) 0, s1 (some p30) (.mv (tm p77)) 1])))))))
  (CC.seq (CC.run [s1 (some p78) (.mv (tm p6)) 0, s1 (some p2) (.mv (tm p78)) 1])
  CC.ret))))))), [CRes.tmp p2]⟩
theorem lit126_ok : fnO tys 126 Tryz.f126 = some lit126 := by kernel_rfl
noncomputable def lit127 : CFn :=
  ⟨127, 36, (CC.seq (CC.run [s1 (some p2) (.mv (cn CV.nils)) 0])
  (CC.seq (CC.run [s1 (some p3) (.mv (cn (i6 (nn 0)))) 0])
  (CC.seq (CC.seq (CC.run [s1 (some p9) (.mv (tm p0)) 0, s1 (some p10) (.len false (tm p9)) 1, s1 (some p11) (.mv (cn (i6 (nn 0)))) 2])
  (CC.block 0 (CC.loop (CC.seq (CC.run [s1 (some p12) (.bin .lss (tm p11) (tm p10)) 0])
  (CC.seq (CC.cond (tm p12) CC.skip
  (CC.exit 0))
  (CC.seq (CC.block 1 (CC.seq (CC.run [s1 (some p13) (.idxAS 1 (tm p9) (tm p11)) 0, s1 (some p14) (.ld (tm p13)) 1, s1 (some p5) (.mv (tm p14)) 2])
  (CC.seq (CC.run [s1 (some p15) (.mv (tm p3)) 0, s1 (some p16) (.mv (tm p5)) 1, s1 (some p17) (.len false (tm p16)) 2, s1 (some p18) (.bin .add (tm p15) (tm p17)) 3, s1 (some p3) (.mv (tm p18)) 4])
  (CC.seq (CC.run [s1 (some p19) (.mv (tm p3)) 0, s1 (some p20) (.bin .lss (tm p19) (cn (i6 (nn 0)))) 1])
  (CC.cond (tm p20) (CC.cond (cn CV.nils) CC.skip
  CC.skip)
  CC.skip)))))
  (CC.run [s1 (some p22) (.bin .add (tm p11) (cn (i6 (nn 1)))) 0, s1 (some p11) (.mv (tm p22)) 1])))))))
  (CC.seq (CC.run [s1 (some p23) (.mv (tm p3)) 0, s1 (some p24) (.call (cn (CV.fn 215 [] [])) [(cn CV.nils), (tm p23)]) 1, s1 (some p6) (.mv (tm p24)) 2])
  (CC.seq (CC.seq (CC.run [s1 (some p25) (.mv (tm p0)) 0, s1 (some p26) (.len false (tm p25)) 1, s1 (some p27) (.mv (cn (i6 (nn 0)))) 2])
  (CC.block 2 (CC.loop (CC.seq (CC.run [s1 (some p28) (.bin .lss (tm p27) (tm p26)) 0])
  (CC.seq (CC.cond (tm p28) CC.skip
  (CC.exit 2))
  (CC.seq (CC.block 3 (CC.seq (CC.run [s1 (some p29) (.idxAS 1 (tm p25) (tm p27)) 0, s1 (some p30) (.ld (tm p29)) 1, s1 (some p8) (.mv (tm p30)) 2])
  (CC.run [s1 (some p31) (.mv (tm p6)) 0, s1 (some p32) (.mv (tm p8)) 1, s1 (some p33) (.app 90 2 8 (tm p31) (tm p32)) 2, s1 (some p6) (.mv (tm p33)) 3])))
  (CC.run [s1 (some p34) (.bin .add (tm p27) (cn (i6 (nn 1)))) 0, s1 (some p27) (.mv (tm p34)) 1])))))))
  (CC.seq (CC.run [s1 (some p35) (.mv (tm p6)) 0, s1 (some p2) (.mv (tm p35)) 1])
  CC.ret)))))), [CRes.tmp p2]⟩
theorem lit127_ok : fnO tys 127 Tryz.f127 = some lit127 := by kernel_rfl
noncomputable def lit128 : CFn :=
  ⟨128, 19, (CC.seq (CC.run [s1 (some p4) (.mv (cn (i6 (nn 0)))) 0])
  (CC.seq (CC.seq (CC.run [s1 (some p6) (.mv (tm p0)) 0, s1 (some p7) (.len false (tm p6)) 1, s1 (some p8) (.mv (cn (i6 (nn 0)))) 2])
  (CC.block 0 (CC.loop (CC.seq (CC.run [s1 (some p9) (.bin .lss (tm p8) (tm p7)) 0])
  (CC.seq (CC.cond (tm p9) CC.skip
  (CC.exit 0))
  (CC.seq (CC.block 1 (CC.seq (CC.run [s1 (some p10) (.mv (tm p8)) 0, s1 (some p5) (.mv (tm p10)) 1])
  (CC.seq (CC.run [s1 (some p11) (.mv (tm p1)) 0, s1 (some p12) (.mv (tm p0)) 1, s1 (some p13) (.mv (tm p5)) 2, s1 (some p14) (.idxAS 2 (tm p12) (tm p13)) 3, s1 (some p15) (.ldn 2 (tm p14)) 4, s1 (some p16) (.call (tm p11) [(tm p15)]) 5])
  (CC.cond (tm p16) (CC.seq (CC.run [s1 (some p17) (.mv (tm p5)) 0, s1 (some p4) (.mv (tm p17)) 1])
  CC.ret)
  CC.skip))))
  (CC.run [s1 (some p18) (.bin .add (tm p8) (cn (i6 (nn 1)))) 0, s1 (some p8) (.mv (tm p18)) 1])))))))
  (CC.seq (CC.run [s1 (some p4) (.mv (cn (i6 (Int.negSucc 0)))) 0])
  CC.ret))), [CRes.tmp p4]⟩
theorem lit128_ok : fnO tys 128 Tryz.f128 = some lit128 := by kernel_rfl
noncomputable def lit129 : CFn :=
  ⟨129, 19, (CC.seq (CC.run [s1 (some p4) (.mv (cn (i6 (nn 0)))) 0])
  (CC.seq (CC.seq (CC.run [s1 (some p6) (.mv (tm p0)) 0, s1 (some p7) (.len false (tm p6)) 1, s1 (some p8) (.mv (cn (i6 (nn 0)))) 2])
  (CC.block 0 (CC.loop (CC.seq (CC.run [s1 (some p9) (.bin .lss (tm p8) (tm p7)) 0])
  (CC.seq (CC.cond (tm p9) CC.skip
  (CC.exit 0))
  (CC.seq (CC.block 1 (CC.seq (CC.run [s1 (some p10) (.mv (tm p8)) 0, s1 (some p5) (.mv (tm p10)) 1])
  (CC.seq (CC.run [s1 (some p11) (.mv (tm p1)) 0, s1 (some p12) (.mv (tm p0)) 1, s1 (some p13) (.mv (tm p5)) 2, s1 (some p14) (.idxAS 1 (tm p12) (tm p13)) 3, s1 (some p15) (.ld (tm p14)) 4, s1 (some p16) (.call (tm p11) [(tm p15)]) 5])
  (CC.cond (tm p16) (CC.seq (CC.run [s1 (some p17) (.mv (tm p5)) 0, s1 (some p4) (.mv (tm p17)) 1])
  CC.ret)
  CC.skip))))
  (CC.run [s1 (some p18) (.bin .add (tm p8) (cn (i6 (nn 1)))) 0, s1 (some p8) (.mv (tm p18)) 1])))))))
  (CC.seq (CC.run [s1 (some p4) (.mv (cn (i6 (Int.negSucc 0)))) 0])
  CC.ret))), [CRes.tmp p4]⟩
theorem lit129_ok : fnO tys 129 Tryz.f129 = some lit129 := by kernel_rfl
noncomputable def lit130 : CFn :=
  ⟨130, 19, (CC.seq (CC.run [s1 (some p4) (.mv (cn (i6 (nn 0)))) 0])
  (CC.seq (CC.seq (CC.run [s1 (some p6) (.mv (tm p0)) 0, s1 (some p7) (.len false (tm p6)) 1, s1 (some p8) (.mv (cn (i6 (nn 0)))) 2])
  (CC.block 0 (CC.loop (CC.seq (CC.run [s1 (some p9) (.bin .lss (tm p8) (tm p7)) 0])
  (CC.seq (CC.cond (tm p9) CC.skip
  (CC.exit 0))
  (CC.seq (CC.block 1 (CC.seq (CC.run [s1 (some p10) (.mv (tm p8)) 0, s1 (some p5) (.mv (tm p10)) 1])
  (CC.seq (CC.run [s1 (some p11) (.mv (tm p1)) 0, s1 (some p12) (.mv (tm p0)) 1, s1 (some p13) (.mv (tm p5)) 2, s1 (some p14) (.idxAS 1 (tm p12) (tm p13)) 3, s1 (some p15) (.ld (tm p14)) 4, s1 (some p16) (.bin .eql (tm p11) (tm p15)) 5])
  (CC.cond (tm p16) (CC.seq (CC.run [s1 (some p17) (.mv (tm p5)) 0, s1 (some p4) (.mv (tm p17)) 1])
  CC.ret)
  CC.skip))))
  (CC.run [s1 (some p18) (.bin .add (tm p8) (cn (i6 (nn 1)))) 0, s1 (some p8) (.mv (tm p18)) 1])))))))
  (CC.seq (CC.run [s1 (some p4) (.mv (cn (i6 (Int.negSucc 0)))) 0])
  CC.ret))), [CRes.tmp p4]⟩
theorem lit130_ok : fnO tys 130 Tryz.f130 = some lit130 := by kernel_rfl
noncomputable def lit179 : CFn :=
  ⟨179, 19, (CC.seq (CC.run [s1 (some p4) (.mv (cn (i6 (nn 0)))) 0])
  (CC.seq (CC.seq (CC.run [s1 (some p6) (.mv (tm p0)) 0, s1 (some p7) (.len false (tm p6)) 1, s1 (some p8) (.mv (cn (i6 (nn 0)))) 2])
  (CC.block 0 (CC.loop (CC.seq (CC.run [s1 (some p9) (.bin .lss (tm p8) (tm p7)) 0])
  (CC.seq (CC.cond (tm p9) CC.skip
  (CC.exit 0))
  (CC.seq (CC.block 1 (CC.seq (CC.run [s1 (some p10) (.mv (tm p8)) 0, s1 (some p5) (.mv (tm p10)) 1])
  (CC.seq (CC.run [s1 (some p11) (.mv (tm p1)) 0, s1 (some p12) (.mv (tm p0)) 1, s1 (some p13) (.mv (tm p5)) 2, s1 (some p14) (.idxAS 10 (tm p12) (tm p13)) 3, s1 (some p15) (.ldn 10 (tm p14)) 4, s1 (some p16) (.call (tm p11) [(tm p15)]) 5])
  (CC.cond (tm p16) (CC.seq (CC.run [s1 (some p17) (.mv (tm p5)) 0, s1 (some p4) (.mv (tm p17)) 1])
  CC.ret)
  CC.skip))))
  (CC.run [s1 (some p18) (.bin .add (tm p8) (cn (i6 (nn 1)))) 0, s1 (some p8) (.mv (tm p18)) 1])))))))
  (CC.seq (CC.run [s1 (some p4) (.mv (cn (i6 (Int.negSucc 0)))) 0])
  CC.ret))), [CRes.tmp p4]⟩
theorem lit179_ok : fnO tys 179 Tryz.f179 = some lit179 := by kernel_rfl
noncomputable def lit180 : CFn :=
  ⟨180, 10, (CC.seq (CC.run [s1 (some p2) (.mv (cn (i6 (nn 0)))) 0, s1 (some p3) (.mv (cn (i6 (nn 0)))) 1])
  (CC.seq (CC.run [s1 (some p4) (.ld (tm p0)) 0, s1 (some p5) (.fldA 2 (tm p1)) 1, s1 (some p6) (.ldn 2 (tm p5)) 2, s1 (some p7) (.call (cn (CV.fn 181 [] [])) [(tm p4), (cn (i6 (nn 0))), (tm p6)]) 3, s1 (some p8) (.extr (tm p7) 0) 4, s1 (some p9) (.extr (tm p7) 1) 5, s1 (some p2) (.mv (tm p8)) 6, s1 (some p3) (.mv (tm p9)) 7])
  CC.ret)), [CRes.tmp p2, CRes.tmp p3]⟩
theorem lit180_ok : fnO tys 180 Tryz.f180 = some lit180 := by kernel_rfl
noncomputable def lit181 : CFn :=
  ⟨181, 40, (CC.seq (CC.run [s1 (some p5) (.box 63 (tm p2)) 0, s1 (some p6) (.mv (cn (i6 (nn 0)))) 1, s1 (some p7) (.mv (cn (i6 (nn 0)))) 2])
  (CC.seq (CC.seq (CC.run [s1 (some p9) (.mv (tm p0)) 0, s1 (some p10) (.eqs false EK.ptr (tm p9) (cn CV.nilp)) 1])
  (CC.cond (tm p10) (CC.seq (CC.run [s1 (some p6) (.mv (cn (i6 (nn 0)))) 0, s1 (some p7) (.mv (cn (i6 (nn 2)))) 1])
  CC.ret)
  CC.skip))
  (CC.seq (CC.seq (CC.run [s1 (some p11) (.mv (tm p1)) 0, s1 (some p12) (.bin .neq (tm p11) (cn (i6 (nn 0)))) 1, s1 (some p13) (.mv (tm p12)) 2, ⟨(some p14), (.mv (tm p1)), (some (p13, true)), 3, true, true⟩, ⟨(some p15), (.bin .neq (tm p14) (cn (i6 (nn 1)))), (some (p13, true)), 4, true, true⟩, s1 (some p16) (.pick (tm p13) (tm p15) (cn (CV.bool false))) 5])
  (CC.cond (tm p16) (CC.seq (CC.run [s1 (some p6) (.mv (cn (i6 (nn 0)))) 0, s1 (some p7) (.mv (cn (i6 (nn 1)))) 1])
  CC.ret)
  CC.skip))
  (CC.seq (CC.seq (CC.run [s1 (some p17) (.ldn 2 (tm p5)) 0, s1 (some p18) (.call (cn (CV.fn 122 [] [])) [(tm p17)]) 1, s1 (some p8) (.mv (tm p18)) 2])
  (CC.seq (CC.run [s1 (some p19) (.mv (tm p8)) 0, s1 (some p20) (.bin .neq (tm p19) (cn (i6 (nn 0)))) 1])
  (CC.cond (tm p20) (CC.seq (CC.run [s1 (some p21) (.mv (tm p8)) 0, s1 (some p6) (.mv (cn (i6 (nn 0)))) 1, s1 (some p7) (.mv (tm p21)) 2])
  CC.ret)
  CC.skip)))
  (CC.seq (CC.draw [] [⟨(some p22), (.mv (tm p0)), none, 0, false, false⟩, ⟨(some p24), (.mv (tm p1)), none, 2, false, false⟩, ⟨(some p28), (.fldA 1 (tm p5)), none, 6, false, false⟩, ⟨(some p29), (.ld (tm p28)), none, 7, false, false⟩, ⟨(some p30), (.fldA 0 (tm p5)), none, 8, false, false⟩, ⟨(some p31), (.ld (tm p30)), none, 9, false, false⟩, ⟨(some p32), (.conv .u64 (tm p31)), none, 10, false, false⟩, ⟨(some p33), (.fldA 1 (tm p5)), none, 11, false, false⟩, ⟨(some p34), (.ld (tm p33)), none, 12, false, false⟩, ⟨(some p35), (.bin .sub (cn (i6 (nn 32))) (tm p34)), none, 13, false, false⟩, ⟨(some p36), (.bin .shr (tm p32) (tm p35)), none, 14, false, false⟩, s1 (some p23) (.call (cn (CV.fn 219 [] [])) []) 1, s1 (some p25) (.idxAS 2 (tm p23) (tm p24)) 3, s1 (some p26) (.fldA 0 (tm p25)) 4, s1 (some p27) (.ld (tm p26)) 5, s1 (some p37) (.call (cn (CV.fn 218 [] [])) [(tm p22), (tm p27), (tm p29), (tm p36), (cn (CV.fn 220 [] []))]) 15, ⟨(some p38), (.extr (tm p37) 0), none, 16, false, false⟩, s1 (some p39) (.extr (tm p37) 1) 17, s1 (some p6) (.mv (tm p38)) 18, s1 (some p7) (.mv (tm p39)) 19])
  CC.ret))))), [CRes.tmp p6, CRes.tmp p7]⟩
theorem lit181_ok : fnO tys 181 Tryz.f181 = some lit181 := by kernel_rfl
noncomputable def lit182 : CFn :=
  ⟨182, 10, (CC.seq (CC.run [s1 (some p2) (.mv (cn (i6 (nn 0)))) 0, s1 (some p3) (.mv (cn (i6 (nn 0)))) 1])
  (CC.seq (CC.run [s1 (some p4) (.ld (tm p0)) 0, s1 (some p5) (.fldA 4 (tm p1)) 1, s1 (some p6) (.ldn 2 (tm p5)) 2, s1 (some p7) (.call (cn (CV.fn 181 [] [])) [(tm p4), (cn (i6 (nn 1))), (tm p6)]) 3, s1 (some p8) (.extr (tm p7) 0) 4, s1 (some p9) (.extr (tm p7) 1) 5, s1 (some p2) (.mv (tm p8)) 6, s1 (some p3) (.mv (tm p9)) 7])
  CC.ret)), [CRes.tmp p2, CRes.tmp p3]⟩
theorem lit182_ok : fnO tys 182 Tryz.f182 = some lit182 := by kernel_rfl
noncomputable def lit183 : CFn :=
  ⟨183, 11, (CC.seq (CC.run [s1 (some p2) (.mv (cn (i6 (nn 0)))) 0, s1 (some p3) (.mv (cn (i6 (nn 0)))) 1])
  (CC.seq (CC.run [s1 (some p4) (.ld (tm p0)) 0, s1 (some p5) (.fldA 6 (tm p1)) 1, s1 (some p6) (.ldn 2 (tm p5)) 2, s1 (some p7) (.bslice 90 2 1 [(CV.int .u32 (nn 0)), (CV.int .u32 (nn 0))] [(0, 2, (tm p6))]) 3, s1 (some p8) (.call (cn (CV.fn 184 [] [])) [(tm p4), (cn (i6 (nn 3))), (tm p7)]) 4, s1 (some p9) (.extr (tm p8) 0) 5, s1 (some p10) (.extr (tm p8) 1) 6, s1 (some p2) (.mv (tm p9)) 7, s1 (some p3) (.mv (tm p10)) 8])
  CC.ret)), [CRes.tmp p2, CRes.tmp p3]⟩
theorem lit183_ok : fnO tys 183 Tryz.f183 = some lit183 := by kernel_rfl
noncomputable def lit184 : CFn :=
  ⟨184, 98, (CC.seq (CC.run [s1 (some p6) (.mv (cn (i6 (nn 0)))) 0, s1 (some p7) (.mv (cn (i6 (nn 0)))) 1])
  (CC.seq (CC.seq (CC.run [s1 (some p16) (.mv (tm p0)) 0, s1 (some p17) (.eqs false EK.ptr (tm p16) (cn CV.nilp)) 1])
  (CC.cond (tm p17) (CC.seq (CC.run [s1 (some p6) (.mv (cn (i6 (nn 0)))) 0, s1 (some p7) (.mv (cn (i6 (nn 2)))) 1])
  CC.ret)
  CC.skip))
  (CC.seq (CC.seq (CC.run [s1 (some p18) (.mv (tm p1)) 0, s1 (some p19) (.bin .lss (tm p18) (cn (i6 (nn 0)))) 1, s1 (some p20) (.mv (tm p19)) 2, ⟨(some p21), (.mv (tm p1)), (some (p20, false)), 3, true, true⟩, ⟨(some p22), (.bin .gtr (tm p21) (cn (i6 (nn 4)))), (some (p20, false)), 4, true, true⟩, s1 (some p23) (.pick (tm p20) (cn (CV.bool true)) (tm p22)) 5])
  (CC.cond (tm p23) (CC.seq (CC.run [s1 (some p6) (.mv (cn (i6 (nn 0)))) 0, s1 (some p7) (.mv (cn (i6 (nn 1)))) 1])
  CC.ret)
  CC.skip))
  (CC.seq (CC.run [s1 (some p24) (.call (cn (CV.fn 219 [] [])) []) 0, s1 (some p25) (.mv (tm p1)) 1, s1 (some p26) (.idxAS 2 (tm p24) (tm p25)) 2, s1 (some p27) (.ldn 2 (tm p26)) 3, s1 (some p8) (.new 318 [(i6 (nn 0)), (i6 (nn 0))]) 4, s1 none (.st 2 (tm p8) (tm p27)) 5])
  (CC.seq (CC.run [s1 (some p28) (.fldA 1 (tm p8)) 0, s1 (some p29) (.ld (tm p28)) 1, s1 (some p30) (.bin .shl (cn (CV.int .u64 (nn 1))) (tm p29)) 2, s1 (some p31) (.bin .sub (tm p30) (cn (CV.int .u64 (nn 1)))) 3, s1 (some p9) (.mv (tm p31)) 4])
  (CC.seq (CC.run [s1 (some p10) (.mv (cn (i6 (nn 0)))) 0])
  (CC.seq (CC.seq (CC.run [s1 (some p32) (.mv (tm p2)) 0, s1 (some p33) (.call (cn (CV.fn 126 [] [])) [(tm p32)]) 1, s1 (some p34) (.len false (tm p33)) 2, s1 (some p35) (.mv (cn (i6 (nn 0)))) 3])
  (CC.block 0 (CC.loop (CC.seq (CC.run [s1 (some p36) (.bin .lss (tm p35) (tm p34)) 0])
  (CC.seq (CC.cond (tm p36) CC.skip
  (CC.exit 0))
  (CC.seq (CC.block 1 (CC.seq (CC.run [s1 (some p37) (.idxAS 2 (tm p33) (tm p35)) 0, s1 (some p38) (.ldn 2 (tm p37)) 1, s1 (some p12) (.new 90 [(CV.int .u32 (nn 0)), (CV.int .u32 (nn 0))]) 2, s1 none (.st 2 (tm p12) (tm p38)) 3])
  (CC.seq (CC.seq (CC.run [s1 (some p39) (.fldA 0 (tm p12)) 0, s1 (some p40) (.ld (tm p39)) 1, s1 (some p41) (.conv .u64 (tm p40)) 2, s1 (some p42) (.mv (tm p9)) 3, s1 (some p43) (.bin .gtr (tm p41) (tm p42)) 4])
  (CC.cond (tm p43) (CC.exit 0)
  CC.skip))
  (CC.seq (CC.run [s1 (some p45) (.mv (tm p0)) 0, s1 (some p46) (.ldn 2 (tm p8)) 1, s1 (some p47) (.fldA 0 (tm p12)) 2, s1 (some p48) (.ld (tm p47)) 3, s1 (some p49) (.conv .u64 (tm p48)) 4, s1 (some p50) (.call (cn (CV.fn 221 [] [])) [(tm p45), (tm p46), (tm p49), (cn (CV.bool true))]) 5, s1 (some p44) (.mv (tm p50)) 6, s1 (some p51) (.extr (tm p44) 0) 7, s1 (some p52) (.extr (tm p44) 1) 8, s1 (some p13) (.mv (tm p51)) 9, s1 (some p14) (.mv (tm p52)) 10])
  (CC.seq (CC.seq (CC.run [s1 (some p53) (.mv (tm p14)) 0, s1 (some p54) (.bin .neq (tm p53) (cn (i6 (nn 0)))) 1])
  (CC.cond (tm p54) (CC.seq (CC.run [s1 (some p55) (.mv (tm p14)) 0, s1 (some p6) (.mv (cn (i6 (nn 0)))) 1, s1 (some p7) (.mv (tm p55)) 2])
  CC.ret)
  CC.skip))
  (CC.seq (CC.run [s1 (some p57) (.mv (tm p0)) 0, s1 (some p58) (.ldn 2 (tm p8)) 1, s1 (some p59) (.fldA 1 (tm p12)) 2, s1 (some p60) (.ld (tm p59)) 3, s1 (some p61) (.conv .u64 (tm p60)) 4, s1 (some p62) (.mv (tm p9)) 5, s1 (some p63) (.minmax false [(tm p61), (tm p62)]) 6, s1 (some p64) (.call (cn (CV.fn 221 [] [])) [(tm p57), (tm p58), (tm p63), (cn (CV.bool false))]) 7, s1 (some p56) (.mv (tm p64)) 8, s1 (some p65) (.extr (tm p56) 0) 9, s1 (some p66) (.extr (tm p56) 1) 10, s1 (some p15) (.mv (tm p65)) 11, s1 (some p14) (.mv (tm p66)) 12])
  (CC.seq (CC.seq (CC.run [s1 (some p67) (.mv (tm p14)) 0, s1 (some p68) (.bin .neq (tm p67) (cn (i6 (nn 0)))) 1])
  (CC.cond (tm p68) (CC.seq (CC.run [s1 (some p69) (.mv (tm p14)) 0, s1 (some p6) (.mv (cn (i6 (nn 0)))) 1, s1 (some p7) (.mv (tm p69)) 2])
  CC.ret)
  CC.skip))
  (CC.seq (CC.seq (CC.run [s1 (some p71) (.mv (tm p0)) 0, s1 (some p72) (.nilck (tm p71)) 1, s1 (some p73) (.fldA 0 (tm p72)) 2, s1 (some p74) (.ld (tm p73)) 3, s1 (some p75) (.mv (tm p13)) 4, s1 (some p76) (.mv (tm p15)) 5, s1 (some p77) (.call (cn (CV.fn 187 [] [])) [(tm p74), (tm p75), (tm p76)]) 6, s1 (some p70) (.mv (tm p77)) 7, s1 (some p78) (.extr (tm p70) 0) 8, s1 (some p79) (.extr (tm p70) 1) 9, s1 (some p13) (.mv (tm p78)) 10, s1 (some p14) (.mv (tm p79)) 11])
  (CC.seq (CC.run [s1 (some p80) (.mv (tm p14)) 0, s1 (some p81) (.bin .neq (tm p80) (cn (i6 (nn 0)))) 1])
  (CC.cond (tm p81) (CC.seq (CC.run [s1 (some p82) (.mv (tm p14)) 0, s1 (some p6) (.mv (cn (i6 (nn 0)))) 1, s1 (some p7) (.mv (tm p82)) 2])
  CC.ret)
  CC.skip)))
  (CC.seq (CC.run [s1 (some p84) (.mv (tm p0)) 0, s1 (some p85) (.nilck (tm p84)) 1, s1 (some p86) (.fldA 0 (tm p85)) 2, s1 (some p87) (.ld (tm p86)) 3, s1 (some p88) (.mv (tm p10)) 4, s1 (some p89) (.mv (tm p13)) 5, s1 (some p90) (.call (cn (CV.fn 121 [] [])) [(tm p87), (tm p88), (tm p89)]) 6, s1 (some p83) (.mv (tm p90)) 7, s1 (some p91) (.extr (tm p83) 0) 8, s1 (some p92) (.extr (tm p83) 1) 9, s1 (some p10) (.mv (tm p91)) 10, s1 (some p14) (.mv (tm p92)) 11])
  (CC.seq (CC.run [s1 (some p93) (.mv (tm p14)) 0, s1 (some p94) (.bin .neq (tm p93) (cn (i6 (nn 0)))) 1])
  (CC.cond (tm p94) (CC.seq (CC.run [s1 (some p95) (.mv (tm p14)) 0, s1 (some p6) (.mv (cn (i6 (nn 0)))) 1, s1 (some p7) (.mv (tm p95)) 2])
  CC.ret)
  CC.skip)))))))))))
  (CC.run [s1 (some p96) (.bin .add (tm p35) (cn (i6 (nn 1)))) 0, s1 (some p35) (.mv (tm p96)) 1])))))))
  (CC.seq (CC.run [s1 (some p97) (.mv (tm p10)) 0, s1 (some p6) (.mv (tm p97)) 1, s1 (some p7) (.mv (cn (i6 (nn 0)))) 2])
  CC.ret)))))))), [CRes.tmp p6, CRes.tmp p7]⟩
theorem lit184_ok : fnO tys 184 Tryz.f184 = some lit184 := by kernel_rfl
noncomputable def lit185 : CFn :=
  ⟨185, 11, (CC.seq (CC.run [s1 (some p2) (.mv (cn (i6 (nn 0)))) 0, s1 (some p3) (.mv (cn (i6 (nn 0)))) 1])
  (CC.seq (CC.run [s1 (some p4) (.ld (tm p0)) 0, s1 (some p5) (.fldA 8 (tm p1)) 1, s1 (some p6) (.ldn 2 (tm p5)) 2, s1 (some p7) (.bslice 90 2 1 [(CV.int .u32 (nn 0)), (CV.int .u32 (nn 0))] [(0, 2, (tm p6))]) 3, s1 (some p8) (.call (cn (CV.fn 184 [] [])) [(tm p4), (cn (i6 (nn 4))), (tm p7)]) 4, s1 (some p9) (.extr (tm p8) 0) 5, s1 (some p10) (.extr (tm p8) 1) 6, s1 (some p2) (.mv (tm p9)) 7, s1 (some p3) (.mv (tm p10)) 8])
  CC.ret)), [CRes.tmp p2, CRes.tmp p3]⟩
theorem lit185_ok : fnO tys 185 Tryz.f185 = some lit185 := by kernel_rfl
noncomputable def lit186 : CFn :=
  ⟨186, 16, (CC.seq (CC.run [s1 (some p2) (.mv (cn (i6 (nn 0)))) 0, s1 (some p3) (.mv (cn (i6 (nn 0)))) 1])
  (CC.seq (CC.run [s1 (some p4) (.ld (tm p0)) 0, s1 (some p5) (.fldA 1 (tm p1)) 1, s1 (some p6) (.ld (tm p5)) 2, s1 (some p7) (.conv .u32 (tm p6)) 3, s1 (some p8) (.fldA 1 (tm p1)) 4, s1 (some p9) (.ld (tm p8)) 5, s1 (some p10) (.conv .u32 (tm p9)) 6, s1 (some p11) (.build [(CV.int .u32 (nn 0)), (CV.int .u32 (nn 0))] [(0, 1, (tm p7)), (1, 1, (tm p10))]) 7, s1 (some p12) (.bslice 90 2 1 [(CV.int .u32 (nn 0)), (CV.int .u32 (nn 0))] [(0, 2, (tm p11))]) 8, s1 (some p13) (.call (cn (CV.fn 184 [] [])) [(tm p4), (cn (i6 (nn 2))), (tm p12)]) 9, s1 (some p14) (.extr (tm p13) 0) 10, s1 (some p15) (.extr (tm p13) 1) 11, s1 (some p2) (.mv (tm p14)) 12, s1 (some p3) (.mv (tm p15)) 13])
  CC.ret)), [CRes.tmp p2, CRes.tmp p3]⟩
theorem lit186_ok : fnO tys 186 Tryz.f186 = some lit186 := by kernel_rfl
noncomputable def lit187 : CFn :=
  ⟨187, 14, (CC.seq (CC.run [s1 (some p6) (.mv (cn (i6 (nn 0)))) 0, s1 (some p7) (.mv (cn (i6 (nn 0)))) 1])
  (CC.seq (CC.run [s1 (some p8) (.mv (tm p0)) 0, s1 (some p9) (.mv (tm p1)) 1, s1 (some p10) (.mv (tm p2)) 2, s1 (some p11) (.call (cn (CV.fn 120 [] [])) [(tm p8), (tm p9), (tm p10), (cn (i6 (nn 0)))]) 3, s1 (some p12) (.extr (tm p11) 0) 4, s1 (some p13) (.extr (tm p11) 1) 5, s1 (some p6) (.mv (tm p12)) 6, s1 (some p7) (.mv (tm p13)) 7])
  CC.ret)), [CRes.tmp p6, CRes.tmp p7]⟩
theorem lit187_ok : fnO tys 187 Tryz.f187 = some lit187 := by kernel_rfl
noncomputable def lit194 : CFn :=
  ⟨194, 9, (CC.seq (CC.run [s1 (some p2) (.box 54 (tm p0)) 0, s1 (some p3) (.mv (cn (CV.bool false))) 1])
  (CC.seq (CC.run [s1 (some p4) (.fldA 0 (tm p2)) 0, s1 (some p5) (.ld (tm p4)) 1, s1 (some p6) (.fldA 2 (tm p1)) 2, s1 (some p7) (.ld (tm p6)) 3, s1 (some p8) (.bin .eql (tm p5) (tm p7)) 4, s1 (some p3) (.mv (tm p8)) 5])
  CC.ret)), [CRes.tmp p3]⟩
theorem lit194_ok : fnO tys 194 Tryz.f194 = some lit194 := by kernel_rfl
noncomputable def lit195 : CFn :=
  ⟨195, 22, (CC.seq (CC.run [s1 (some p5) (.mv (cn (CV.bool false))) 0])
  (CC.seq (CC.run [s1 (some p6) (.fldA 7 (tm p1)) 0, s1 (some p7) (.ld (tm p6)) 1, s1 (some p8) (.ld (tm p2)) 2, s1 (some p9) (.idxAS 2 (tm p7) (tm p8)) 3, s1 (some p10) (.fldA 1 (tm p9)) 4, s1 (some p11) (.ld (tm p10)) 5, s1 (some p12) (.mv (tm p0)) 6, s1 (some p13) (.idxAS 5 (tm p11) (tm p12)) 7, s1 (some p14) (.fldA 0 (tm p13)) 8, s1 (some p15) (.ld (tm p14)) 9, s1 (some p16) (.mv (tm p15)) 10, ⟨(some p17), (.ld (tm p3)), (some (p16, true)), 11, true, true⟩, ⟨(some p18), (.mv (tm p0)), (some (p16, true)), 12, true, true⟩, ⟨(some p19), (.call (cn (CV.fn 196 [] [])) [(tm p17), (tm p18)]), (some (p16, true)), 13, true, true⟩, ⟨(some p20), (.not (tm p19)), (some (p16, true)), 14, true, true⟩, s1 (some p21) (.pick (tm p16) (tm p20) (cn (CV.bool false))) 15, s1 (some p5) (.mv (tm p21)) 16])
  CC.ret)), [CRes.tmp p5]⟩
theorem lit195_ok : fnO tys 195 Tryz.f195 = some lit195 := by kernel_rfl
noncomputable def lit196 : CFn :=
  ⟨196, 9, (CC.seq (CC.run [s1 (some p4) (.mv (cn (CV.bool false))) 0])
  (CC.seq (CC.run [s1 (some p5) (.mv (tm p0)) 0, s1 (some p6) (.mv (tm p1)) 1, s1 (some p7) (.call (cn (CV.fn 225 [] [])) [(tm p5), (tm p6)]) 2, s1 (some p8) (.bin .geq (tm p7) (cn (i6 (nn 0)))) 3, s1 (some p4) (.mv (tm p8)) 4])
  CC.ret)), [CRes.tmp p4]⟩
theorem lit196_ok : fnO tys 196 Tryz.f196 = some lit196 := by kernel_rfl
noncomputable def lit197 : CFn :=
  ⟨197, 9, (CC.seq (CC.run [s1 (some p2) (.box 57 (tm p0)) 0, s1 (some p3) (.mv (cn (CV.bool false))) 1])
  (CC.seq (CC.run [s1 (some p4) (.fldA 0 (tm p2)) 0, s1 (some p5) (.ld (tm p4)) 1, s1 (some p6) (.fldA 3 (tm p1)) 2, s1 (some p7) (.ld (tm p6)) 3, s1 (some p8) (.bin .eql (tm p5) (tm p7)) 4, s1 (some p3) (.mv (tm p8)) 5])
  CC.ret)), [CRes.tmp p3]⟩
theorem lit197_ok : fnO tys 197 Tryz.f197 = some lit197 := by kernel_rfl
noncomputable def lit198 : CFn :=
  ⟨198, 22, (CC.seq (CC.run [s1 (some p5) (.mv (cn (CV.bool false))) 0])
  (CC.seq (CC.run [s1 (some p6) (.fldA 8 (tm p1)) 0, s1 (some p7) (.ld (tm p6)) 1, s1 (some p8) (.ld (tm p2)) 2, s1 (some p9) (.idxAS 2 (tm p7) (tm p8)) 3, s1 (some p10) (.fldA 1 (tm p9)) 4, s1 (some p11) (.ld (tm p10)) 5, s1 (some p12) (.mv (tm p0)) 6, s1 (some p13) (.idxAS 2 (tm p11) (tm p12)) 7, s1 (some p14) (.fldA 0 (tm p13)) 8, s1 (some p15) (.ld (tm p14)) 9, s1 (some p16) (.mv (tm p15)) 10, ⟨(some p17), (.ld (tm p3)), (some (p16, true)), 11, true, true⟩, ⟨(some p18), (.mv (tm p0)), (some (p16, true)), 12, true, true⟩, ⟨(some p19), (.call (cn (CV.fn 196 [] [])) [(tm p17), (tm p18)]), (some (p16, true)), 13, true, true⟩, ⟨(some p20), (.not (tm p19)), (some (p16, true)), 14, true, true⟩, s1 (some p21) (.pick (tm p16) (tm p20) (cn (CV.bool false))) 15, s1 (some p5) (.mv (tm p21)) 16])
  CC.ret)), [CRes.tmp p5]⟩
theorem lit198_ok : fnO tys 198 Tryz.f198 = some lit198 := by kernel_rfl
noncomputable def lit200 : CFn :=
  ⟨200, 18, (CC.seq (CC.run [s1 (some p5) (.mv (tm p0)) 0, s1 (some p6) (.len false (tm p5)) 1, s1 (some p7) (.mv (cn (i6 (nn 0)))) 2])
  (CC.block 0 (CC.loop (CC.seq (CC.run [s1 (some p8) (.bin .lss (tm p7) (tm p6)) 0])
  (CC.seq (CC.cond (tm p8) CC.skip
  (CC.exit 0))
  (CC.seq (CC.block 1 (CC.seq (CC.run [s1 (some p9) (.idxAS 4 (tm p5) (tm p7)) 0, s1 (some p10) (.ldn 4 (tm p9)) 1, s1 (some p4) (.new 250 [(CV.int .u8 (nn 0)), (i6 (nn 0)), (CV.int .u8 (nn 0)), (CV.str (bs []))]) 2, s1 none (.st 4 (tm p4) (tm p10)) 3])
  (CC.run [s1 (some p11) (.fldA 3 (tm p1)) 0, s1 (some p12) (.ld (tm p11)) 1, s1 (some p13) (.fldA 3 (tm p4)) 2, s1 (some p14) (.ld (tm p13)) 3, s1 (some p15) (.look KK.str (i6 (nn 0)) false (tm p12) (tm p14)) 4, s1 (some p16) (.bin .add (tm p15) (cn (i6 (nn 1)))) 5, s1 none (.mupd KK.str (tm p12) (tm p14) (tm p16)) 6])))
  (CC.run [s1 (some p17) (.bin .add (tm p7) (cn (i6 (nn 1)))) 0, s1 (some p7) (.mv (tm p17)) 1]))))))), []⟩
theorem lit200_ok : fnO tys 200 Tryz.f200 = some lit200 := by kernel_rfl
noncomputable def lit206 : CFn :=
  ⟨206, 13, (CC.seq (CC.run [s1 (some p1) (.box 90 (tm p0)) 0, s1 (some p2) (.mv (cn (CV.bool false))) 1])
  (CC.seq (CC.run [s1 (some p3) (.fldA 0 (tm p1)) 0, s1 (some p4) (.ld (tm p3)) 1, s1 (some p5) (.fldA 1 (tm p1)) 2, s1 (some p6) (.ld (tm p5)) 3, s1 (some p7) (.bin .leq (tm p4) (tm p6)) 4, s1 (some p8) (.mv (tm p7)) 5, ⟨(some p9), (.fldA 1 (tm p1)), (some (p8, true)), 6, true, true⟩, ⟨(some p10), (.ld (tm p9)), (some (p8, true)), 7, true, true⟩, ⟨(some p11), (.bin .leq (tm p10) (cn (CV.int .u32 (nn 65535)))), (some (p8, true)), 8, true, true⟩, s1 (some p12) (.pick (tm p8) (tm p11) (cn (CV.bool false))) 9, s1 (some p2) (.mv (tm p12)) 10])
  CC.ret)), [CRes.tmp p2]⟩
theorem lit206_ok : fnO tys 206 Tryz.f206 = some lit206 := by kernel_rfl
noncomputable def lit207 : CFn :=
  ⟨207, 89, (CC.seq (CC.run [s1 (some p6) (.mv (cn (i6 (nn 0)))) 0])
  (CC.seq (CC.seq (CC.run [s1 (some p17) (.mv (tm p0)) 0, s1 (some p18) (.eqs false EK.ptr (tm p17) (cn CV.nilp)) 1])
  (CC.cond (tm p18) (CC.seq (CC.run [s1 (some p6) (.mv (cn (i6 (nn 2)))) 0])
  CC.ret)
  CC.skip))
  (CC.seq (CC.seq (CC.run [s1 (some p19) (.mv (tm p2)) 0, s1 (some p20) (.len false (tm p19)) 1, s1 (some p21) (.mv (cn (i6 (nn 0)))) 2])
  (CC.block 0 (CC.loop (CC.seq (CC.run [s1 (some p22) (.bin .lss (tm p21) (tm p20)) 0])
  (CC.seq (CC.cond (tm p22) CC.skip
  (CC.exit 0))
  (CC.seq (CC.block 1 (CC.seq (CC.run [s1 (some p23) (.idxAS 1 (tm p19) (tm p21)) 0, s1 (some p24) (.ld (tm p23)) 1, s1 (some p8) (.mv (tm p24)) 2])
  (CC.seq (CC.seq (CC.run [s1 (some p25) (.mv (tm p0)) 0, s1 (some p26) (.nilck (tm p25)) 1, s1 (some p27) (.fldA 1 (tm p26)) 2, s1 (some p28) (.ld (tm p27)) 3, s1 (some p29) (.mv (tm p8)) 4, s1 (some p30) (.look KK.int (i6 (nn 0)) false (tm p28) (tm p29)) 5, s1 (some p31) (.bin .geq (tm p30) (cn (i6 (nn 1)))) 6])
  (CC.cond (tm p31) (CC.exit 1)
  CC.skip))
  (CC.seq (CC.seq (CC.run [s1 (some p33) (.mv (tm p0)) 0, s1 (some p34) (.nilck (tm p33)) 1, s1 (some p35) (.fldA 0 (tm p34)) 2, s1 (some p36) (.ld (tm p35)) 3, s1 (some p37) (.mv (tm p8)) 4, s1 (some p38) (.call (cn (CV.fn 229 [] [])) [(tm p36), (tm p37)]) 5, s1 (some p32) (.mv (tm p38)) 6, s1 (some p39) (.extr (tm p32) 0) 7, s1 (some p40) (.extr (tm p32) 1) 8, s1 (some p9) (.mv (tm p39)) 9, s1 (some p10) (.mv (tm p40)) 10])
  (CC.seq (CC.run [s1 (some p41) (.mv (tm p10)) 0, s1 (some p42) (.bin .neq (tm p41) (cn (i6 (nn 0)))) 1])
  (CC.cond (tm p42) (CC.seq (CC.run [s1 (some p6) (.mv (cn (i6 (nn 1)))) 0])
  CC.ret)
  CC.skip)))
  (CC.run [s1 (some p43) (.mv (tm p0)) 0, s1 (some p44) (.nilck (tm p43)) 1, s1 (some p45) (.fldA 1 (tm p44)) 2, s1 (some p46) (.ld (tm p45)) 3, s1 (some p47) (.mv (tm p8)) 4, s1 none (.mupd KK.int (tm p46) (tm p47) (cn (i6 (nn 1)))) 5])))))
  (CC.run [s1 (some p48) (.bin .add (tm p21) (cn (i6 (nn 1)))) 0, s1 (some p21) (.mv (tm p48)) 1])))))))
  (CC.seq (CC.seq (CC.run [s1 (some p49) (.mv (tm p1)) 0, s1 (some p50) (.len false (tm p49)) 1, s1 (some p51) (.mv (cn (i6 (nn 0)))) 2])
  (CC.block 2 (CC.loop (CC.seq (CC.run [s1 (some p52) (.bin .lss (tm p51) (tm p50)) 0])
  (CC.seq (CC.cond (tm p52) CC.skip
  (CC.exit 2))
  (CC.seq (CC.block 3 (CC.seq (CC.run [s1 (some p53) (.idxAS 1 (tm p49) (tm p51)) 0, s1 (some p54) (.ld (tm p53)) 1, s1 (some p12) (.mv (tm p54)) 2])
  (CC.seq (CC.seq (CC.run [s1 (some p55) (.mv (tm p0)) 0, s1 (some p56) (.nilck (tm p55)) 1, s1 (some p57) (.fldA 1 (tm p56)) 2, s1 (some p58) (.ld (tm p57)) 3, s1 (some p59) (.mv (tm p12)) 4, s1 (some p60) (.look KK.int (i6 (nn 0)) false (tm p58) (tm p59)) 5, s1 (some p61) (.bin .eql (tm p60) (cn (i6 (nn 2)))) 6])
  (CC.cond (tm p61) (CC.exit 3)
  CC.skip))
  (CC.seq (CC.run [s1 (some p63) (.mv (tm p0)) 0, s1 (some p64) (.nilck (tm p63)) 1, s1 (some p65) (.fldA 0 (tm p64)) 2, s1 (some p66) (.ld (tm p65)) 3, s1 (some p67) (.mv (tm p12)) 4, s1 (some p68) (.call (cn (CV.fn 230 [] [])) [(tm p66), (tm p67)]) 5, s1 (some p62) (.mv (tm p68)) 6, s1 (some p69) (.extr (tm p62) 0) 7, s1 (some p70) (.extr (tm p62) 1) 8, s1 (some p13) (.mv (tm p69)) 9, s1 (some p14) (.mv (tm p70)) 10])
  (CC.seq (CC.seq (CC.run [s1 (some p71) (.mv (tm p14)) 0, s1 (some p72) (.bin .neq (tm p71) (cn (i6 (nn 0)))) 1])
  (CC.cond (tm p72) (CC.seq (CC.run [s1 (some p6) (.mv (cn (i6 (nn 1)))) 0])
  CC.ret)
  CC.skip))
  (CC.seq (CC.seq (CC.run [s1 (some p73) (.mv (tm p13)) 0, s1 (some p74) (.len false (tm p73)) 1, s1 (some p75) (.mv (cn (i6 (nn 0)))) 2])
  (CC.block 4 (CC.loop (CC.seq (CC.run [s1 (some p76) (.bin .lss (tm p75) (tm p74)) 0])
  (CC.seq (CC.cond (tm p76) CC.skip
  (CC.exit 4))
  (CC.seq (CC.block 5 (CC.seq (CC.run [s1 (some p77) (.idxAS 1 (tm p73) (tm p75)) 0, s1 (some p78) (.ld (tm p77)) 1, s1 (some p16) (.mv (tm p78)) 2])
  (CC.seq (CC.run [s1 (some p79) (.mv (tm p16)) 0, s1 (some p80) (.bin .rem (tm p79) (cn (i6 (nn 2)))) 1, s1 (some p81) (.bin .eql (tm p80) (cn (i6 (nn 1)))) 2])
  (CC.cond (tm p81) (CC.seq (CC.run [s1 (some p6) (.mv (cn (i6 (nn 1)))) 0])
  CC.ret)
  CC.skip))))
  (CC.run [s1 (some p82) (.bin .add (tm p75) (cn (i6 (nn 1)))) 0, s1 (some p75) (.mv (tm p82)) 1])))))))
  (CC.run [s1 (some p83) (.mv (tm p0)) 0, s1 (some p84) (.nilck (tm p83)) 1, s1 (some p85) (.fldA 1 (tm p84)) 2, s1 (some p86) (.ld (tm p85)) 3, s1 (some p87) (.mv (tm p12)) 4, s1 none (.mupd KK.int (tm p86) (tm p87) (cn (i6 (nn 2)))) 5])))))))
  (CC.run [s1 (some p88) (.bin .add (tm p51) (cn (i6 (nn 1)))) 0, s1 (some p51) (.mv (tm p88)) 1])))))))
  (CC.seq (CC.run [s1 (some p6) (.mv (cn (i6 (nn 0)))) 0])
  CC.ret))))), [CRes.tmp p6]⟩
theorem lit207_ok : fnO tys 207 Tryz.f207 = some lit207 := by kernel_rfl
noncomputable def lit208 : CFn :=
  ⟨208, 23, (CC.seq (CC.run [s1 (some p4) (.mv (cn (i6 (nn 0)))) 0])
  (CC.seq (CC.seq (CC.run [s1 (some p7) (.mv (tm p0)) 0, s1 (some p8) (.eqs false EK.ptr (tm p7) (cn CV.nilp)) 1])
  (CC.cond (tm p8) (CC.seq (CC.run [s1 (some p4) (.mv (cn (i6 (nn 2)))) 0])
  CC.ret)
  CC.skip))
  (CC.seq (CC.seq (CC.run [s1 (some p9) (.mv (tm p1)) 0, s1 (some p10) (.len false (tm p9)) 1, s1 (some p11) (.mv (cn (i6 (nn 0)))) 2])
  (CC.block 0 (CC.loop (CC.seq (CC.run [s1 (some p12) (.bin .lss (tm p11) (tm p10)) 0])
  (CC.seq (CC.cond (tm p12) CC.skip
  (CC.exit 0))
  (CC.seq (CC.block 1 (CC.seq (CC.run [s1 (some p13) (.idxAS 1 (tm p9) (tm p11)) 0, s1 (some p14) (.ld (tm p13)) 1, s1 (some p6) (.mv (tm p14)) 2])
  (CC.seq (CC.run [s1 (some p15) (.mv (tm p0)) 0, s1 (some p16) (.nilck (tm p15)) 1, s1 (some p17) (.fldA 5 (tm p16)) 2, s1 (some p18) (.ld (tm p17)) 3, s1 (some p19) (.mv (tm p6)) 4, s1 (some p20) (.look KK.int (CV.bool false) false (tm p18) (tm p19)) 5, s1 (some p21) (.not (tm p20)) 6])
  (CC.cond (tm p21) (CC.seq (CC.run [s1 (some p4) (.mv (cn (i6 (nn 1)))) 0])
  CC.ret)
  CC.skip))))
  (CC.run [s1 (some p22) (.bin .add (tm p11) (cn (i6 (nn 1)))) 0, s1 (some p11) (.mv (tm p22)) 1])))))))
  (CC.seq (CC.run [s1 (some p4) (.mv (cn (i6 (nn 0)))) 0])
  CC.ret)))), [CRes.tmp p4]⟩
theorem lit208_ok : fnO tys 208 Tryz.f208 = some lit208 := by kernel_rfl
noncomputable def lit209 : CFn :=
  ⟨209, 50, (CC.seq (CC.run [s1 (some p2) (.box 174 (tm p0)) 0, s1 (some p4) (.mv (cn (i6 (nn 0)))) 1, s1 (some p5) (.mv (cn (i6 (nn 0)))) 2])
  (CC.seq (CC.run [s1 (some p6) (.new 329 [CV.nils]) 0])
  (CC.seq (CC.run [s1 (some p11) .mkmap 0, s1 none (.mupd KK.int (tm p11) (cn (i3 (nn 0))) (cn (i6 (nn 1)))) 1, s1 none (.mupd KK.int (tm p11) (cn (i3 (nn 1))) (cn (i6 (nn 1)))) 2, s1 (some p12) (.mv (tm p11)) 3, s1 (some p7) (.new 330 [CV.nilm]) 4, s1 none (.st 1 (tm p7) (tm p12)) 5])
  (CC.seq (CC.run [s1 (some p8) (.new 331 [CV.nilf]) 0])
  (CC.seq (CC.run [s1 (some p13) (.mkfn 231 [] [(tm p7), (tm p2), (tm p6), (tm p8)]) 0, s1 none (.st 1 (tm p8) (tm p13)) 1])
  (CC.seq (CC.run [s1 (some p14) (.ld (tm p8)) 0, s1 (some p15) (.mv (tm p1)) 1, s1 (some p16) (.call (tm p14) [(tm p15)]) 2])
  (CC.seq (CC.seq (CC.draw [] [⟨(some p17), (.ld (tm p2)), none, 0, false, true⟩, ⟨(some p18), (.nilck (tm p17)), none, 1, false, true⟩, ⟨(some p19), (.fldA 6 (tm p18)), none, 2, false, true⟩, ⟨(some p20), (.ld (tm p19)), none, 3, false, true⟩, ⟨(some p21), (.mlen (tm p20)), none, 4, false, true⟩, ⟨(some p22), (.ld (tm p6)), none, 5, false, true⟩, ⟨(some p23), (.len false (tm p22)), none, 6, false, true⟩, ⟨(some p24), (.bin .add (tm p21) (tm p23)), none, 7, false, true⟩, s1 (some p25) (.ld (tm p2)) 8, s1 (some p26) (.nilck (tm p25)) 9, s1 (some p27) (.fldA 1 (tm p26)) 10, s1 (some p28) (.ld (tm p27)) 11, s1 (some p29) (.bin .gtr (tm p24) (tm p28)) 12])
  (CC.cond (tm p29) (CC.seq (CC.run [s1 (some p4) (.mv (cn (i6 (nn 0)))) 0, s1 (some p5) (.mv (cn (i6 (nn 3)))) 1])
  CC.ret)
  CC.skip))
  (CC.seq (CC.seq (CC.run [s1 (some p30) (.ld (tm p6)) 0, s1 (some p31) (.len false (tm p30)) 1, s1 (some p32) (.mv (cn (i6 (nn 0)))) 2])
  (CC.block 0 (CC.loop (CC.seq (CC.run [s1 (some p33) (.bin .lss (tm p32) (tm p31)) 0])
  (CC.seq (CC.cond (tm p33) CC.skip
  (CC.exit 0))
  (CC.seq (CC.block 1 (CC.seq (CC.run [s1 (some p34) (.idxAS 1 (tm p30) (tm p32)) 0, s1 (some p35) (.ld (tm p34)) 1, s1 (some p10) (.mv (tm p35)) 2])
  (CC.run [s1 (some p36) (.ld (tm p2)) 0, s1 (some p37) (.nilck (tm p36)) 1, s1 (some p38) (.fldA 6 (tm p37)) 2, s1 (some p39) (.ld (tm p38)) 3, s1 (some p40) (.mv (tm p10)) 4, s1 none (.mupd KK.int (tm p39) (tm p40) (cn (CV.bool true))) 5])))
  (CC.run [s1 (some p41) (.bin .add (tm p32) (cn (i6 (nn 1)))) 0, s1 (some p32) (.mv (tm p41)) 1])))))))
  (CC.seq (CC.run [s1 (some p42) (.ld (tm p2)) 0, s1 (some p43) (.nilck (tm p42)) 1, s1 (some p44) (.fldA 5 (tm p43)) 2, s1 (some p45) (.ld (tm p44)) 3, s1 (some p46) (.mv (tm p1)) 4, s1 (some p47) (.conv .i64 (tm p46)) 5, s1 none (.mupd KK.int (tm p45) (tm p47) (cn (CV.bool true))) 6])
  (CC.seq (CC.run [s1 (some p48) (.mv (tm p1)) 0, s1 (some p49) (.conv .i64 (tm p48)) 1, s1 (some p4) (.mv (tm p49)) 2, s1 (some p5) (.mv (cn (i6 (nn 0)))) 3])
  CC.ret)))))))))), [CRes.tmp p4, CRes.tmp p5]⟩
theorem lit209_ok : fnO tys 209 Tryz.f209 = some lit209 := by kernel_rfl
noncomputable def lit210 : CFn :=
  ⟨210, 93, (CC.seq (CC.run [s1 (some p4) (.box 174 (tm p0)) 0, s1 (some p5) (.box 21 (tm p1)) 1, s1 (some p6) (.box 21 (tm p2)) 2, s1 (some p7) (.box 21 (tm p3)) 3, s1 (some p8) (.mv (cn (i3 (nn 0)))) 4])
  (CC.seq (CC.block 0 (CC.seq (CC.run [s1 (some p17) (.ld (tm p5)) 0, s1 (some p18) (.bin .eql (tm p17) (cn (i3 (nn 1)))) 1, s1 (some p19) (.mv (tm p18)) 2, ⟨(some p20), (.ld (tm p6)), (some (p19, false)), 3, true, true⟩, ⟨(some p21), (.ld (tm p7)), (some (p19, false)), 4, true, true⟩, ⟨(some p22), (.bin .eql (tm p20) (tm p21)), (some (p19, false)), 5, true, true⟩, s1 (some p23) (.pick (tm p19) (cn (CV.bool true)) (tm p22)) 6, s1 (some p16) (.mv (tm p23)) 7])
  (CC.cond (tm p16) (CC.seq (CC.run [s1 (some p24) (.ld (tm p6)) 0, s1 (some p8) (.mv (tm p24)) 1])
  CC.ret)
  (CC.seq (CC.run [s1 (some p26) (.ld (tm p5)) 0, s1 (some p27) (.bin .eql (tm p26) (cn (i3 (nn 0)))) 1, s1 (some p25) (.mv (tm p27)) 2])
  (CC.cond (tm p25) (CC.seq (CC.run [s1 (some p28) (.ld (tm p7)) 0, s1 (some p8) (.mv (tm p28)) 1])
  CC.ret)
  (CC.seq (CC.run [s1 (some p30) (.ld (tm p6)) 0, s1 (some p31) (.bin .eql (tm p30) (cn (i3 (nn 1)))) 1, s1 (some p32) (.mv (tm p31)) 2, ⟨(some p33), (.ld (tm p7)), (some (p32, true)), 3, true, true⟩, ⟨(some p34), (.bin .eql (tm p33) (cn (i3 (nn 0)))), (some (p32, true)), 4, true, true⟩, s1 (some p35) (.pick (tm p32) (tm p34) (cn (CV.bool false))) 5, s1 (some p29) (.mv (tm p35)) 6])
  (CC.cond (tm p29) (CC.seq (CC.run [s1 (some p36) (.ld (tm p5)) 0, s1 (some p8) (.mv (tm p36)) 1])
  CC.ret)
  CC.skip)))))))
  (CC.seq (CC.run [s1 (some p37) (.ld (tm p5)) 0, s1 (some p38) (.ld (tm p6)) 1, s1 (some p39) (.ld (tm p7)) 2, s1 (some p40) (.build [(i3 (nn 0)), (i3 (nn 0)), (i3 (nn 0))] [(0, 1, (tm p37)), (1, 1, (tm p38)), (2, 1, (tm p39))]) 3, s1 (some p9) (.new 332 [(i3 (nn 0)), (i3 (nn 0)), (i3 (nn 0))]) 4, s1 none (.st 3 (tm p9) (tm p40)) 5])
  (CC.seq (CC.seq (CC.draw [] [⟨(some p42), (.ld (tm p4)), none, 0, false, true⟩, ⟨(some p43), (.nilck (tm p42)), none, 1, false, true⟩, ⟨(some p44), (.fldA 4 (tm p43)), none, 2, false, true⟩, ⟨(some p45), (.ld (tm p44)), none, 3, false, true⟩, s1 (some p46) (.ldn 3 (tm p9)) 4, s1 (some p47) (.look (KK.agg [(Lf.int .i32), (Lf.int .i32), (Lf.int .i32)]) (i3 (nn 0)) true (tm p45) (tm p46)) 5, s1 (some p41) (.mv (tm p47)) 6, ⟨(some p48), (.extr (tm p41) 0), none, 7, false, true⟩, ⟨(some p49), (.extr (tm p41) 1), none, 8, false, true⟩, s1 (some p10) (.mv (tm p48)) 9, s1 (some p11) (.mv (tm p49)) 10])
  (CC.seq (CC.run [s1 (some p50) (.mv (tm p11)) 0])
  (CC.cond (tm p50) (CC.seq (CC.run [s1 (some p51) (.mv (tm p10)) 0, s1 (some p8) (.mv (tm p51)) 1])
  CC.ret)
  CC.skip)))
  (CC.seq (CC.draw [p12] [⟨(some p52), (.ld (tm p4)), none, 0, false, true⟩, ⟨(some p53), (.nilck (tm p52)), none, 1, false, true⟩, ⟨(some p54), (.fldA 2 (tm p53)), none, 2, false, true⟩, ⟨(some p55), (.ld (tm p54)), none, 3, false, true⟩, ⟨(some p56), (.ld (tm p5)), none, 4, false, true⟩, ⟨(some p57), (.idxAS 3 (tm p55) (tm p56)), none, 5, false, true⟩, ⟨(some p58), (.fldA 0 (tm p57)), none, 6, false, true⟩, ⟨(some p59), (.ld (tm p58)), none, 7, false, true⟩, ⟨(some p60), (.ld (tm p4)), none, 8, false, true⟩, ⟨(some p61), (.nilck (tm p60)), none, 9, false, true⟩, ⟨(some p62), (.fldA 2 (tm p61)), none, 10, false, true⟩, ⟨(some p63), (.ld (tm p62)), none, 11, false, true⟩, ⟨(some p64), (.ld (tm p6)), none, 12, false, true⟩, ⟨(some p65), (.idxAS 3 (tm p63) (tm p64)), none, 13, false, true⟩, ⟨(some p66), (.fldA 0 (tm p65)), none, 14, false, true⟩, ⟨(some p67), (.ld (tm p66)), none, 15, false, true⟩, ⟨(some p68), (.ld (tm p4)), none, 16, false, true⟩, ⟨(some p69), (.nilck (tm p68)), none, 17, false, true⟩, ⟨(some p70), (.fldA 2 (tm p69)), none, 18, false, true⟩, ⟨(some p71), (.ld (tm p70)), none, 19, false, true⟩, s1 (some p72) (.ld (tm p7)) 20, s1 (some p73) (.idxAS 3 (tm p71) (tm p72)) 21, s1 (some p74) (.fldA 0 (tm p73)) 22, s1 (some p75) (.ld (tm p74)) 23, s1 (some p76) (.minmax false [(tm p59), (tm p67), (tm p75)]) 24, s1 (some p12) (.new 21 [(i3 (nn 0))]) 25, s1 none (.st 1 (tm p12) (tm p76)) 26])
  (CC.seq (CC.run [s1 (some p77) (.mkfn 232 [] [(tm p4), (tm p5), (tm p12), (tm p6), (tm p7)]) 0, s1 (some p13) (.mv (tm p77)) 1])
  (CC.seq (CC.run [s1 (some p78) (.mv (tm p13)) 0, s1 (some p79) (.call (tm p78) [(cn (CV.bool false))]) 1, s1 (some p14) (.mv (tm p79)) 2])
  (CC.seq (CC.draw [] [⟨(some p80), (.ld (tm p4)), none, 0, false, false⟩, ⟨(some p81), (.ld (tm p12)), none, 1, false, false⟩, ⟨(some p82), (.mv (tm p14)), none, 2, false, false⟩, s1 (some p83) (.mv (tm p13)) 3, s1 (some p84) (.call (tm p83) [(cn (CV.bool true))]) 4, s1 (some p85) (.call (cn (CV.fn 234 [] [])) [(tm p80), (tm p81), (tm p82), (tm p84)]) 5, s1 (some p15) (.mv (tm p85)) 6])
  (CC.seq (CC.draw [] [⟨(some p86), (.ld (tm p4)), none, 0, false, true⟩, ⟨(some p87), (.nilck (tm p86)), none, 1, false, true⟩, ⟨(some p88), (.fldA 4 (tm p87)), none, 2, false, true⟩, ⟨(some p89), (.ld (tm p88)), none, 3, false, true⟩, ⟨(some p90), (.ldn 3 (tm p9)), none, 4, false, true⟩, s1 (some p91) (.mv (tm p15)) 5, s1 none (.mupd (KK.agg [(Lf.int .i32), (Lf.int .i32), (Lf.int .i32)]) (tm p89) (tm p90) (tm p91)) 6])
  (CC.seq (CC.run [s1 (some p92) (.mv (tm p15)) 0, s1 (some p8) (.mv (tm p92)) 1])
  CC.ret)))))))))), [CRes.tmp p8]⟩
theorem lit210_ok : fnO tys 210 Tryz.f210 = some lit210 := by kernel_rfl
noncomputable def lit211 : CFn :=
  ⟨211, 14, (CC.seq (CC.run [s1 (some p5) (.mv (tm p0)) 0, s1 (some p6) (.len false (tm p5)) 1, s1 (some p4) (.mv (tm p6)) 2])
  (CC.run [s1 (some p7) (.mv (tm p0)) 0, s1 (some p8) (.mv (tm p4)) 1, s1 (some p9) (.mv (tm p4)) 2, s1 (some p10) (.conv .u64 (tm p9)) 3, s1 (some p11) (.call (cn (CV.fn 236 [] [])) [(tm p10)]) 4, s1 (some p12) (.mv (tm p1)) 5, s1 (some p13) (.call (cn (CV.fn 235 [] [])) [(tm p7), (cn (i6 (nn 0))), (tm p8), (tm p11), (tm p12)]) 6])), []⟩
theorem lit211_ok : fnO tys 211 Tryz.f211 = some lit211 := by kernel_rfl
noncomputable def lit212 : CFn :=
  ⟨212, 17, (CC.seq (CC.run [s1 (some p2) (.box 90 (tm p0)) 0, s1 (some p3) (.box 90 (tm p1)) 1, s1 (some p4) (.mv (cn (i6 (nn 0)))) 2])
  (CC.seq (CC.draw [] [⟨(some p5), (.fldA 0 (tm p2)), none, 0, false, true⟩, ⟨(some p6), (.ld (tm p5)), none, 1, false, true⟩, ⟨(some p7), (.fldA 0 (tm p3)), none, 2, false, true⟩, ⟨(some p8), (.ld (tm p7)), none, 3, false, true⟩, ⟨(some p10), (.fldA 1 (tm p2)), none, 5, false, false⟩, ⟨(some p11), (.ld (tm p10)), none, 6, false, false⟩, ⟨(some p12), (.fldA 1 (tm p3)), none, 7, false, false⟩, ⟨(some p13), (.ld (tm p12)), none, 8, false, false⟩, s1 (some p9) (.call (cn (CV.fn 214 [] [])) [(tm p6), (tm p8)]) 4, s1 (some p14) (.call (cn (CV.fn 214 [] [])) [(tm p11), (tm p13)]) 9, s1 (some p15) (.bslice 3 1 2 [(i6 (nn 0)), (i6 (nn 0))] [(0, 1, (tm p9)), (1, 1, (tm p14))]) 10, s1 (some p16) (.call (cn (CV.fn 213 [] [])) [(tm p15)]) 11, s1 (some p4) (.mv (tm p16)) 12])
  CC.ret)), [CRes.tmp p4]⟩
theorem lit212_ok : fnO tys 212 Tryz.f212 = some lit212 := by kernel_rfl
noncomputable def lit213 : CFn :=
  ⟨213, 18, (CC.seq (CC.run [s1 (some p2) (.mv (cn (i6 (nn 0)))) 0])
  (CC.seq (CC.run [s1 (some p3) (.mv (cn (i6 (nn 0)))) 0])
  (CC.seq (CC.seq (CC.run [s1 (some p6) (.mv (tm p0)) 0, s1 (some p7) (.len false (tm p6)) 1, s1 (some p8) (.mv (cn (i6 (nn 0)))) 2])
  (CC.block 0 (CC.loop (CC.seq (CC.run [s1 (some p9) (.bin .lss (tm p8) (tm p7)) 0])
  (CC.seq (CC.cond (tm p9) CC.skip
  (CC.exit 0))
  (CC.seq (CC.block 1 (CC.seq (CC.run [s1 (some p10) (.idxAS 1 (tm p6) (tm p8)) 0, s1 (some p11) (.ld (tm p10)) 1, s1 (some p5) (.mv (tm p11)) 2])
  (CC.seq (CC.run [s1 (some p12) (.mv (tm p5)) 0, s1 (some p13) (.mv (tm p3)) 1, s1 (some p14) (.bin .neq (tm p12) (tm p13)) 2])
  (CC.cond (tm p14) (CC.seq (CC.run [s1 (some p15) (.mv (tm p5)) 0, s1 (some p2) (.mv (tm p15)) 1])
  CC.ret)
  CC.skip))))
  (CC.run [s1 (some p16) (.bin .add (tm p8) (cn (i6 (nn 1)))) 0, s1 (some p8) (.mv (tm p16)) 1])))))))
  (CC.seq (CC.run [s1 (some p17) (.mv (tm p3)) 0, s1 (some p2) (.mv (tm p17)) 1])
  CC.ret)))), [CRes.tmp p2]⟩
theorem lit213_ok : fnO tys 213 Tryz.f213 = some lit213 := by kernel_rfl
noncomputable def lit214 : CFn :=
  ⟨214, 20, (CC.seq (CC.run [s1 (some p4) (.mv (cn (i6 (nn 0)))) 0])
  (CC.seq (CC.run [s1 (some p7) (.mv (tm p0)) 0, s1 (some p8) (.call (cn (CV.fn 237 [] [])) [(tm p7)]) 1, s1 (some p5) (.mv (tm p8)) 2])
  (CC.seq (CC.run [s1 (some p9) (.mv (tm p1)) 0, s1 (some p10) (.call (cn (CV.fn 237 [] [])) [(tm p9)]) 1, s1 (some p6) (.mv (tm p10)) 2])
  (CC.seq (CC.seq (CC.run [s1 (some p11) (.mv (tm p5)) 0])
  (CC.cond (tm p11) (CC.seq (CC.seq (CC.run [s1 (some p12) (.mv (tm p6)) 0])
  (CC.cond (tm p12) (CC.seq (CC.run [s1 (some p4) (.mv (cn (i6 (nn 0)))) 0])
  CC.ret)
  CC.skip))
  (CC.seq (CC.run [s1 (some p4) (.mv (cn (i6 (Int.negSucc 0)))) 0])
  CC.ret))
  CC.skip))
  (CC.seq (CC.seq (CC.run [s1 (some p13) (.mv (tm p6)) 0])
  (CC.cond (tm p13) (CC.seq (CC.run [s1 (some p4) (.mv (cn (i6 (nn 1)))) 0])
  CC.ret)
  CC.skip))
  (CC.seq (CC.seq (CC.run [s1 (some p14) (.mv (tm p0)) 0, s1 (some p15) (.mv (tm p1)) 1, s1 (some p16) (.bin .lss (tm p14) (tm p15)) 2])
  (CC.cond (tm p16) (CC.seq (CC.run [s1 (some p4) (.mv (cn (i6 (Int.negSucc 0)))) 0])
  CC.ret)
  CC.skip))
  (CC.seq (CC.seq (CC.run [s1 (some p17) (.mv (tm p0)) 0, s1 (some p18) (.mv (tm p1)) 1, s1 (some p19) (.bin .gtr (tm p17) (tm p18)) 2])
  (CC.cond (tm p19) (CC.seq (CC.run [s1 (some p4) (.mv (cn (i6 (nn 1)))) 0])
  CC.ret)
  CC.skip))
  (CC.seq (CC.run [s1 (some p4) (.mv (cn (i6 (nn 0)))) 0])
  CC.ret)))))))), [CRes.tmp p4]⟩
theorem lit214_ok : fnO tys 214 Tryz.f214 = some lit214 := by kernel_rfl
noncomputable def lit215 : CFn :=
  ⟨215, 27, (CC.seq (CC.run [s1 (some p4) (.mv (cn CV.nils)) 0])
  (CC.seq (CC.seq (CC.run [s1 (some p5) (.mv (tm p1)) 0, s1 (some p6) (.bin .lss (tm p5) (cn (i6 (nn 0)))) 1])
  (CC.cond (tm p6) (CC.cond (cn CV.nils) CC.skip
  CC.skip)
  CC.skip))
  (CC.seq (CC.seq (CC.cond (cn CV.nils) CC.skip
  CC.skip)
  (CC.seq (CC.run [s1 (some p15) (.mv (tm p1)) 0, s1 (some p16) (.bin .gtr (tm p15) (cn (i6 (nn 0)))) 1])
  (CC.cond (tm p16) (CC.cond (cn CV.nils) CC.skip
  CC.skip)
  CC.skip)))
  (CC.seq (CC.run [s1 (some p26) (.mv (tm p0)) 0, s1 (some p4) (.mv (tm p26)) 1])
  CC.ret)))), [CRes.tmp p4]⟩
theorem lit215_ok : fnO tys 215 Tryz.f215 = some lit215 := by kernel_rfl
noncomputable def lit218 : CFn :=
  ⟨218, 72, (CC.seq (CC.run [s1 (some p10) (.mv (cn (i6 (nn 0)))) 0, s1 (some p11) (.mv (cn (i6 (nn 0)))) 1])
  (CC.seq (CC.run [s1 (some p12) (.mv (cn (i6 (nn 1)))) 0])
  (CC.seq (CC.seq (CC.run [s1 (some p16) (.mv (tm p2)) 0, s1 (some p17) (.bin .sub (tm p16) (cn (i6 (nn 1)))) 1, s1 (some p13) (.mv (tm p17)) 2])
  (CC.block 0 (CC.loop (CC.seq (CC.seq (CC.run [s1 (some p18) (.mv (tm p13)) 0, s1 (some p19) (.bin .geq (tm p18) (cn (i6 (nn 0)))) 1])
  (CC.cond (tm p19) CC.skip
  (CC.exit 0)))
  (CC.seq (CC.block 1 (CC.seq (CC.draw [] [⟨(some p23), (.mv (tm p0)), none, 0, false, false⟩, ⟨(some p24), (.nilck (tm p23)), none, 1, false, false⟩, ⟨(some p25), (.fldA 0 (tm p24)), none, 2, false, false⟩, ⟨(some p26), (.ld (tm p25)), none, 3, false, false⟩, ⟨(some p27), (.mv (tm p4)), none, 4, false, true⟩, ⟨(some p28), (.mv (tm p1)), none, 5, false, true⟩, s1 (some p29) (.mv (tm p13)) 6, s1 (some p30) (.bin .add (tm p28) (tm p29)) 7, s1 (some p31) (.call (tm p27) [(tm p30)]) 8, s1 (some p32) (.call (cn (CV.fn 238 [] [])) [(tm p26), (tm p31)]) 9, s1 (some p22) (.mv (tm p32)) 10, ⟨(some p33), (.extr (tm p22) 0), none, 11, false, false⟩, ⟨(some p34), (.extr (tm p22) 1), none, 12, false, false⟩, s1 (some p14) (.mv (tm p33)) 13, s1 (some p15) (.mv (tm p34)) 14])
  (CC.seq (CC.seq (CC.run [s1 (some p35) (.mv (tm p15)) 0, s1 (some p36) (.bin .neq (tm p35) (cn (i6 (nn 0)))) 1])
  (CC.cond (tm p36) (CC.seq (CC.run [s1 (some p37) (.mv (tm p15)) 0, s1 (some p10) (.mv (cn (i6 (nn 0)))) 1, s1 (some p11) (.mv (tm p37)) 2])
  CC.ret)
  CC.skip))
  (CC.seq (CC.seq (CC.run [s1 (some p38) (.mv (tm p3)) 0, s1 (some p39) (.mv (tm p2)) 1, s1 (some p40) (.bin .sub (tm p39) (cn (i6 (nn 1)))) 2, s1 (some p41) (.mv (tm p13)) 3, s1 (some p42) (.bin .sub (tm p40) (tm p41)) 4, s1 (some p43) (.bin .shr (tm p38) (tm p42)) 5, s1 (some p44) (.bin .and (tm p43) (cn (CV.int .u64 (nn 1)))) 6, s1 (some p45) (.bin .eql (tm p44) (cn (CV.int .u64 (nn 0)))) 7])
  (CC.cond (tm p45) (CC.seq (CC.run [s1 (some p47) (.mv (tm p0)) 0, s1 (some p48) (.nilck (tm p47)) 1, s1 (some p49) (.fldA 0 (tm p48)) 2, s1 (some p50) (.ld (tm p49)) 3, s1 (some p51) (.mv (tm p14)) 4, s1 (some p52) (.call (cn (CV.fn 239 [] [])) [(tm p50), (tm p51)]) 5, s1 (some p46) (.mv (tm p52)) 6, s1 (some p53) (.extr (tm p46) 0) 7, s1 (some p54) (.extr (tm p46) 1) 8, s1 (some p14) (.mv (tm p53)) 9, s1 (some p15) (.mv (tm p54)) 10])
  (CC.seq (CC.run [s1 (some p55) (.mv (tm p15)) 0, s1 (some p56) (.bin .neq (tm p55) (cn (i6 (nn 0)))) 1])
  (CC.cond (tm p56) (CC.seq (CC.run [s1 (some p57) (.mv (tm p15)) 0, s1 (some p10) (.mv (cn (i6 (nn 0)))) 1, s1 (some p11) (.mv (tm p57)) 2])
  CC.ret)
  CC.skip)))
  CC.skip))
  (CC.seq (CC.run [s1 (some p59) (.mv (tm p0)) 0, s1 (some p60) (.nilck (tm p59)) 1, s1 (some p61) (.fldA 0 (tm p60)) 2, s1 (some p62) (.ld (tm p61)) 3, s1 (some p63) (.mv (tm p14)) 4, s1 (some p64) (.mv (tm p12)) 5, s1 (some p65) (.call (cn (CV.fn 187 [] [])) [(tm p62), (tm p63), (tm p64)]) 6, s1 (some p58) (.mv (tm p65)) 7, s1 (some p66) (.extr (tm p58) 0) 8, s1 (some p67) (.extr (tm p58) 1) 9, s1 (some p12) (.mv (tm p66)) 10, s1 (some p15) (.mv (tm p67)) 11])
  (CC.seq (CC.run [s1 (some p68) (.mv (tm p15)) 0, s1 (some p69) (.bin .neq (tm p68) (cn (i6 (nn 0)))) 1])
  (CC.cond (tm p69) (CC.seq (CC.run [s1 (some p70) (.mv (tm p15)) 0, s1 (some p10) (.mv (cn (i6 (nn 0)))) 1, s1 (some p11) (.mv (tm p70)) 2])
  CC.ret)
  CC.skip)))))))
  (CC.run [s1 (some p20) (.mv (tm p13)) 0, s1 (some p21) (.bin .sub (tm p20) (cn (i6 (nn 1)))) 1, s1 (some p13) (.mv (tm p21)) 2]))))))
  (CC.seq (CC.run [s1 (some p71) (.mv (tm p12)) 0, s1 (some p10) (.mv (tm p71)) 1, s1 (some p11) (.mv (cn (i6 (nn 0)))) 2])
  CC.ret)))), [CRes.tmp p10, CRes.tmp p11]⟩
theorem lit218_ok : fnO tys 218 Tryz.f218 = some lit218 := by kernel_rfl
noncomputable def lit219 : CFn :=
  ⟨219, 7, (CC.seq (CC.run [s1 (some p0) (.mv (cn CV.nils)) 0])
  (CC.seq (CC.run [s1 (some p1) (.build [(i6 (nn 0)), (i6 (nn 0))] [(0, 1, (cn (i6 (nn 0)))), (1, 1, (cn (i6 (nn 32))))]) 0, s1 (some p2) (.build [(i6 (nn 0)), (i6 (nn 0))] [(0, 1, (cn (i6 (nn 32)))), (1, 1, (cn (i6 (nn 32))))]) 1, s1 (some p3) (.build [(i6 (nn 0)), (i6 (nn 0))] [(0, 1, (cn (i6 (nn 64)))), (1, 1, (cn (i6 (nn 8))))]) 2, s1 (some p4) (.build [(i6 (nn 0)), (i6 (nn 0))] [(0, 1, (cn (i6 (nn 72)))), (1, 1, (cn (i6 (nn 16))))]) 3, s1 (some p5) (.build [(i6 (nn 0)), (i6 (nn 0))] [(0, 1, (cn (i6 (nn 88)))), (1, 1, (cn (i6 (nn 16))))]) 4, s1 (some p6) (.bslice 318 2 5 [(i6 (nn 0)), (i6 (nn 0)), (i6 (nn 0)), (i6 (nn 0)), (i6 (nn 0)), (i6 (nn 0)), (i6 (nn 0)), (i6 (nn 0)), (i6 (nn 0)), (i6 (nn 0))] [(0, 2, (tm p1)), (2, 2, (tm p2)), (4, 2, (tm p3)), (6, 2, (tm p4)), (8, 2, (tm p5))]) 5, s1 (some p0) (.mv (tm p6)) 6])
  CC.ret)), [CRes.tmp p0]⟩
theorem lit219_ok : fnO tys 219 Tryz.f219 = some lit219 := by kernel_rfl
noncomputable def lit220 : CFn :=
  ⟨220, 5, (CC.seq (CC.run [s1 (some p2) (.mv (cn (i6 (nn 0)))) 0])
  (CC.seq (CC.run [s1 (some p3) (.mv (tm p0)) 0, s1 (some p4) (.bin .mul (cn (i6 (nn 2))) (tm p3)) 1, s1 (some p2) (.mv (tm p4)) 2])
  CC.ret)), [CRes.tmp p2]⟩
theorem lit220_ok : fnO tys 220 Tryz.f220 = some lit220 := by kernel_rfl
noncomputable def lit221 : CFn :=
  ⟨221, 75, (CC.seq (CC.run [s1 (some p5) (.box 318 (tm p1)) 0, s1 (some p8) (.mv (cn (i6 (nn 0)))) 1, s1 (some p9) (.mv (cn (i6 (nn 0)))) 2])
  (CC.seq (CC.run [s1 (some p10) (.mv (cn (i6 (nn 1)))) 0])
  (CC.seq (CC.seq (CC.run [s1 (some p17) (.fldA 1 (tm p5)) 0, s1 (some p18) (.ld (tm p17)) 1, s1 (some p19) (.bin .sub (tm p18) (cn (i6 (nn 1)))) 2, s1 (some p11) (.mv (tm p19)) 3])
  (CC.block 0 (CC.loop (CC.seq (CC.seq (CC.run [s1 (some p20) (.mv (tm p11)) 0, s1 (some p21) (.bin .geq (tm p20) (cn (i6 (nn 0)))) 1])
  (CC.cond (tm p21) CC.skip
  (CC.exit 0)))
  (CC.seq (CC.block 1 (CC.seq (CC.draw [] [⟨(some p25), (.mv (tm p0)), none, 0, false, false⟩, ⟨(some p26), (.nilck (tm p25)), none, 1, false, false⟩, ⟨(some p27), (.fldA 0 (tm p26)), none, 2, false, false⟩, ⟨(some p28), (.ld (tm p27)), none, 3, false, false⟩, ⟨(some p29), (.fldA 0 (tm p5)), none, 4, false, true⟩, ⟨(some p30), (.ld (tm p29)), none, 5, false, true⟩, s1 (some p31) (.mv (tm p11)) 6, s1 (some p32) (.bin .add (tm p30) (tm p31)) 7, s1 (some p33) (.call (cn (CV.fn 220 [] [])) [(tm p32)]) 8, s1 (some p34) (.call (cn (CV.fn 238 [] [])) [(tm p28), (tm p33)]) 9, s1 (some p24) (.mv (tm p34)) 10, ⟨(some p35), (.extr (tm p24) 0), none, 11, false, false⟩, ⟨(some p36), (.extr (tm p24) 1), none, 12, false, false⟩, s1 (some p12) (.mv (tm p35)) 13, s1 (some p13) (.mv (tm p36)) 14])
  (CC.seq (CC.seq (CC.run [s1 (some p37) (.mv (tm p13)) 0, s1 (some p38) (.bin .neq (tm p37) (cn (i6 (nn 0)))) 1])
  (CC.cond (tm p38) (CC.seq (CC.run [s1 (some p39) (.mv (tm p13)) 0, s1 (some p8) (.mv (cn (i6 (nn 0)))) 1, s1 (some p9) (.mv (tm p39)) 2])
  CC.ret)
  CC.skip))
  (CC.seq (CC.run [s1 (some p40) (.mv (tm p2)) 0, s1 (some p41) (.fldA 1 (tm p5)) 1, s1 (some p42) (.ld (tm p41)) 2, s1 (some p43) (.bin .sub (tm p42) (cn (i6 (nn 1)))) 3, s1 (some p44) (.mv (tm p11)) 4, s1 (some p45) (.bin .sub (tm p43) (tm p44)) 5, s1 (some p46) (.bin .shr (tm p40) (tm p45)) 6, s1 (some p47) (.bin .and (tm p46) (cn (CV.int .u64 (nn 1)))) 7, s1 (some p48) (.bin .eql (tm p47) (cn (CV.int .u64 (nn 1)))) 8, s1 (some p14) (.mv (tm p48)) 9])
  (CC.seq (CC.run [s1 (some p49) (.mv (tm p10)) 0, s1 (some p50) (.mv (tm p10)) 1, s1 (some p15) (.mv (tm p49)) 2, s1 (some p16) (.mv (tm p50)) 3])
  (CC.seq (CC.block 2 (CC.seq (CC.run [s1 (some p52) (.mv (tm p3)) 0, s1 (some p53) (.mv (tm p52)) 1, ⟨(some p54), (.mv (tm p14)), (some (p53, true)), 2, true, true⟩, s1 (some p55) (.pick (tm p53) (tm p54) (cn (CV.bool false))) 3, s1 (some p51) (.mv (tm p55)) 4])
  (CC.cond (tm p51) (CC.run [s1 (some p16) (.mv (cn (i6 (nn 0)))) 0])
  (CC.seq (CC.run [s1 (some p57) (.mv (tm p3)) 0, s1 (some p56) (.mv (tm p57)) 1])
  (CC.cond (tm p56) (CC.run [s1 (some p15) (.mv (cn (i6 (nn 1)))) 0])
  (CC.seq (CC.run [s1 (some p59) (.mv (tm p14)) 0, s1 (some p58) (.mv (tm p59)) 1])
  (CC.cond (tm p58) (CC.run [s1 (some p16) (.mv (cn (i6 (nn 1)))) 0])
  (CC.run [s1 (some p15) (.mv (cn (i6 (nn 0)))) 0]))))))))
  (CC.seq (CC.run [s1 (some p61) (.mv (tm p0)) 0, s1 (some p62) (.nilck (tm p61)) 1, s1 (some p63) (.fldA 0 (tm p62)) 2, s1 (some p64) (.ld (tm p63)) 3, s1 (some p65) (.mv (tm p12)) 4, s1 (some p66) (.mv (tm p15)) 5, s1 (some p67) (.mv (tm p16)) 6, s1 (some p68) (.call (cn (CV.fn 120 [] [])) [(tm p64), (tm p65), (tm p66), (tm p67)]) 7, s1 (some p60) (.mv (tm p68)) 8, s1 (some p69) (.extr (tm p60) 0) 9, s1 (some p70) (.extr (tm p60) 1) 10, s1 (some p10) (.mv (tm p69)) 11, s1 (some p13) (.mv (tm p70)) 12])
  (CC.seq (CC.run [s1 (some p71) (.mv (tm p13)) 0, s1 (some p72) (.bin .neq (tm p71) (cn (i6 (nn 0)))) 1])
  (CC.cond (tm p72) (CC.seq (CC.run [s1 (some p73) (.mv (tm p13)) 0, s1 (some p8) (.mv (cn (i6 (nn 0)))) 1, s1 (some p9) (.mv (tm p73)) 2])
  CC.ret)
  CC.skip)))))))))
  (CC.run [s1 (some p22) (.mv (tm p11)) 0, s1 (some p23) (.bin .sub (tm p22) (cn (i6 (nn 1)))) 1, s1 (some p11) (.mv (tm p23)) 2]))))))
  (CC.seq (CC.run [s1 (some p74) (.mv (tm p10)) 0, s1 (some p8) (.mv (tm p74)) 1, s1 (some p9) (.mv (cn (i6 (nn 0)))) 2])
  CC.ret)))), [CRes.tmp p8, CRes.tmp p9]⟩
theorem lit221_ok : fnO tys 221 Tryz.f221 = some lit221 := by kernel_rfl
noncomputable def lit225 : CFn :=
  ⟨225, 19, (CC.seq (CC.run [s1 (some p4) (.mv (cn (i6 (nn 0)))) 0])
  (CC.seq (CC.seq (CC.run [s1 (some p6) (.mv (tm p0)) 0, s1 (some p7) (.len false (tm p6)) 1, s1 (some p8) (.mv (cn (i6 (nn 0)))) 2])
  (CC.block 0 (CC.loop (CC.seq (CC.run [s1 (some p9) (.bin .lss (tm p8) (tm p7)) 0])
  (CC.seq (CC.cond (tm p9) CC.skip
  (CC.exit 0))
  (CC.seq (CC.block 1 (CC.seq (CC.run [s1 (some p10) (.mv (tm p8)) 0, s1 (some p5) (.mv (tm p10)) 1])
  (CC.seq (CC.run [s1 (some p11) (.mv (tm p1)) 0, s1 (some p12) (.mv (tm p0)) 1, s1 (some p13) (.mv (tm p5)) 2, s1 (some p14) (.idxAS 1 (tm p12) (tm p13)) 3, s1 (some p15) (.ld (tm p14)) 4, s1 (some p16) (.bin .eql (tm p11) (tm p15)) 5])
  (CC.cond (tm p16) (CC.seq (CC.run [s1 (some p17) (.mv (tm p5)) 0, s1 (some p4) (.mv (tm p17)) 1])
  CC.ret)
  CC.skip))))
  (CC.run [s1 (some p18) (.bin .add (tm p8) (cn (i6 (nn 1)))) 0, s1 (some p8) (.mv (tm p18)) 1])))))))
  (CC.seq (CC.run [s1 (some p4) (.mv (cn (i6 (Int.negSucc 0)))) 0])
  CC.ret))), [CRes.tmp p4]⟩
theorem lit225_ok : fnO tys 225 Tryz.f225 = some lit225 := by kernel_rfl
noncomputable def lit229 : CFn :=
  ⟨229, 21, (CC.seq (CC.run [s1 (some p4) (.mv (cn (i6 (nn 0)))) 0, s1 (some p5) (.mv (cn (i6 (nn 0)))) 1])
  (CC.seq (CC.seq (CC.run [s1 (some p8) (.mv (tm p0)) 0, s1 (some p9) (.mv (tm p1)) 1, s1 (some p10) (.bslice 3 1 1 [(i6 (nn 0))] [(0, 1, (tm p9))]) 2, s1 (some p11) (.call (cn (CV.fn 208 [] [])) [(tm p8), (tm p10)]) 3, s1 (some p6) (.mv (tm p11)) 4])
  (CC.seq (CC.run [s1 (some p12) (.mv (tm p6)) 0, s1 (some p13) (.bin .neq (tm p12) (cn (i6 (nn 0)))) 1])
  (CC.cond (tm p13) (CC.seq (CC.run [s1 (some p14) (.mv (tm p6)) 0, s1 (some p4) (.mv (cn (i6 (nn 0)))) 1, s1 (some p5) (.mv (tm p14)) 2])
  CC.ret)
  CC.skip)))
  (CC.seq (CC.run [s1 (some p7) (.new 3 [(i6 (nn 0))]) 0, s1 none (.st 1 (tm p7) (cn (i6 (nn 0)))) 1])
  (CC.seq (CC.run [s1 (some p15) (.mv (tm p0)) 0, s1 (some p16) (.mv (tm p1)) 1, s1 (some p17) (.conv .i32 (tm p16)) 2, s1 (some p18) (.mkfn 251 [] [(tm p7)]) 3, s1 (some p19) (.call (cn (CV.fn 250 [] [])) [(tm p15), (tm p17), (tm p18)]) 4])
  (CC.seq (CC.run [s1 (some p20) (.ld (tm p7)) 0, s1 (some p4) (.mv (tm p20)) 1, s1 (some p5) (.mv (cn (i6 (nn 0)))) 2])
  CC.ret))))), [CRes.tmp p4, CRes.tmp p5]⟩
theorem lit229_ok : fnO tys 229 Tryz.f229 = some lit229 := by kernel_rfl
noncomputable def lit230 : CFn :=
  ⟨230, 24, (CC.seq (CC.run [s1 (some p2) (.box 174 (tm p0)) 0, s1 (some p4) (.mv (cn CV.nils)) 1, s1 (some p5) (.mv (cn (i6 (nn 0)))) 2])
  (CC.seq (CC.seq (CC.run [s1 (some p8) (.ld (tm p2)) 0, s1 (some p9) (.mv (tm p1)) 1, s1 (some p10) (.bslice 3 1 1 [(i6 (nn 0))] [(0, 1, (tm p9))]) 2, s1 (some p11) (.call (cn (CV.fn 208 [] [])) [(tm p8), (tm p10)]) 3, s1 (some p6) (.mv (tm p11)) 4])
  (CC.seq (CC.run [s1 (some p12) (.mv (tm p6)) 0, s1 (some p13) (.bin .neq (tm p12) (cn (i6 (nn 0)))) 1])
  (CC.cond (tm p13) (CC.seq (CC.run [s1 (some p14) (.mv (tm p6)) 0, s1 (some p4) (.mv (cn CV.nils)) 1, s1 (some p5) (.mv (tm p14)) 2])
  CC.ret)
  CC.skip)))
  (CC.seq (CC.run [s1 (some p7) (.new 37 [CV.nils]) 0])
  (CC.seq (CC.run [s1 (some p15) (.ld (tm p2)) 0, s1 (some p16) (.mv (tm p1)) 1, s1 (some p17) (.conv .i32 (tm p16)) 2, s1 (some p18) (.mkfn 252 [] [(tm p7), (tm p2)]) 3, s1 (some p19) (.call (cn (CV.fn 250 [] [])) [(tm p15), (tm p17), (tm p18)]) 4])
  (CC.seq (CC.run [s1 (some p20) (.ld (tm p7)) 0, s1 (some p21) (.call (cn (CV.fn 253 [] [])) [(tm p20)]) 1])
  (CC.seq (CC.run [s1 (some p22) (.ld (tm p7)) 0, s1 (some p23) (.call (cn (CV.fn 254 [] [])) [(tm p22)]) 1, s1 (some p4) (.mv (tm p23)) 2, s1 (some p5) (.mv (cn (i6 (nn 0)))) 3])
  CC.ret)))))), [CRes.tmp p4, CRes.tmp p5]⟩
theorem lit230_ok : fnO tys 230 Tryz.f230 = some lit230 := by kernel_rfl
noncomputable def lit231 : CFn :=
  ⟨231, 46, (CC.seq (CC.seq (CC.run [s1 (some p6) (.ld (tm p1)) 0, s1 (some p7) (.mv (tm p0)) 1, s1 (some p8) (.look KK.int (i6 (nn 0)) false (tm p6) (tm p7)) 2, s1 (some p9) (.bin .gtr (tm p8) (cn (i6 (nn 0)))) 3, s1 (some p10) (.mv (tm p9)) 4, ⟨(some p11), (.ld (tm p2)), (some (p10, false)), 5, true, true⟩, ⟨(some p12), (.nilck (tm p11)), (some (p10, false)), 6, true, true⟩, ⟨(some p13), (.fldA 6 (tm p12)), (some (p10, false)), 7, true, true⟩, ⟨(some p14), (.ld (tm p13)), (some (p10, false)), 8, true, true⟩, ⟨(some p15), (.mv (tm p0)), (some (p10, false)), 9, true, true⟩, ⟨(some p16), (.look KK.int (CV.bool false) false (tm p14) (tm p15)), (some (p10, false)), 10, true, true⟩, s1 (some p17) (.pick (tm p10) (cn (CV.bool true)) (tm p16)) 11])
  (CC.cond (tm p17) CC.ret
  CC.skip))
  (CC.seq (CC.run [s1 (some p18) (.ld (tm p1)) 0, s1 (some p19) (.mv (tm p0)) 1, s1 (some p20) (.look KK.int (i6 (nn 0)) false (tm p18) (tm p19)) 2, s1 (some p21) (.bin .add (tm p20) (cn (i6 (nn 1)))) 3, s1 none (.mupd KK.int (tm p18) (tm p19) (tm p21)) 4])
  (CC.seq (CC.run [s1 (some p22) (.ld (tm p3)) 0, s1 (some p23) (.mv (tm p0)) 1, s1 (some p24) (.bslice 21 1 1 [(i3 (nn 0))] [(0, 1, (tm p23))]) 2, s1 (some p25) (.app 21 1 4 (tm p22) (tm p24)) 3, s1 none (.st 1 (tm p3) (tm p25)) 4])
  (CC.seq (CC.draw [] [⟨(some p26), (.ld (tm p4)), none, 0, false, true⟩, ⟨(some p27), (.ld (tm p2)), none, 1, false, true⟩, ⟨(some p28), (.nilck (tm p27)), none, 2, false, true⟩, ⟨(some p29), (.fldA 2 (tm p28)), none, 3, false, true⟩, ⟨(some p30), (.ld (tm p29)), none, 4, false, true⟩, s1 (some p31) (.mv (tm p0)) 5, s1 (some p32) (.idxAS 3 (tm p30) (tm p31)) 6, s1 (some p33) (.fldA 1 (tm p32)) 7, s1 (some p34) (.ld (tm p33)) 8, s1 (some p35) (.call (tm p26) [(tm p34)]) 9])
  (CC.draw [] [⟨(some p36), (.ld (tm p4)), none, 0, false, true⟩, ⟨(some p37), (.ld (tm p2)), none, 1, false, true⟩, ⟨(some p38), (.nilck (tm p37)), none, 2, false, true⟩, ⟨(some p39), (.fldA 2 (tm p38)), none, 3, false, true⟩, ⟨(some p40), (.ld (tm p39)), none, 4, false, true⟩, s1 (some p41) (.mv (tm p0)) 5, s1 (some p42) (.idxAS 3 (tm p40) (tm p41)) 6, s1 (some p43) (.fldA 2 (tm p42)) 7, s1 (some p44) (.ld (tm p43)) 8, s1 (some p45) (.call (tm p36) [(tm p44)]) 9]))))), []⟩
theorem lit231_ok : fnO tys 231 Tryz.f231 = some lit231 := by kernel_rfl
noncomputable def lit232 : CFn :=
  ⟨232, 25, (CC.seq (CC.run [s1 (some p7) (.mv (cn (i3 (nn 0)))) 0])
  (CC.seq (CC.draw [] [⟨(some p8), (.ld (tm p1)), none, 0, false, false⟩, ⟨(some p9), (.ld (tm p1)), none, 1, false, true⟩, ⟨(some p10), (.ld (tm p2)), none, 2, false, true⟩, ⟨(some p11), (.ld (tm p3)), none, 3, false, true⟩, ⟨(some p12), (.mv (tm p0)), none, 4, false, true⟩, ⟨(some p14), (.ld (tm p1)), none, 6, false, false⟩, ⟨(some p15), (.ld (tm p4)), none, 7, false, false⟩, ⟨(some p16), (.ld (tm p3)), none, 8, false, false⟩, ⟨(some p17), (.mv (tm p0)), none, 9, false, false⟩, ⟨(some p19), (.ld (tm p1)), none, 11, false, false⟩, ⟨(some p20), (.ld (tm p5)), none, 12, false, false⟩, ⟨(some p21), (.ld (tm p3)), none, 13, false, false⟩, ⟨(some p22), (.mv (tm p0)), none, 14, false, false⟩, s1 (some p13) (.call (cn (CV.fn 233 [] [])) [(tm p9), (tm p10), (tm p11), (tm p12)]) 5, s1 (some p18) (.call (cn (CV.fn 233 [] [])) [(tm p14), (tm p15), (tm p16), (tm p17)]) 10, s1 (some p23) (.call (cn (CV.fn 233 [] [])) [(tm p19), (tm p20), (tm p21), (tm p22)]) 15, s1 (some p24) (.call (cn (CV.fn 210 [] [])) [(tm p8), (tm p13), (tm p18), (tm p23)]) 16, s1 (some p7) (.mv (tm p24)) 17])
  CC.ret)), [CRes.tmp p7]⟩
theorem lit232_ok : fnO tys 232 Tryz.f232 = some lit232 := by kernel_rfl
noncomputable def lit233 : CFn :=
  ⟨233, 29, (CC.seq (CC.run [s1 (some p8) (.mv (cn (i3 (nn 0)))) 0])
  (CC.seq (CC.run [s1 (some p10) (.mv (tm p0)) 0, s1 (some p11) (.nilck (tm p10)) 1, s1 (some p12) (.fldA 2 (tm p11)) 2, s1 (some p13) (.ld (tm p12)) 3, s1 (some p14) (.mv (tm p1)) 4, s1 (some p15) (.idxAS 3 (tm p13) (tm p14)) 5, s1 (some p16) (.ldn 3 (tm p15)) 6, s1 (some p9) (.new 276 [(i3 (nn 0)), (i3 (nn 0)), (i3 (nn 0))]) 7, s1 none (.st 3 (tm p9) (tm p16)) 8])
  (CC.seq (CC.block 0 (CC.seq (CC.run [s1 (some p18) (.fldA 0 (tm p9)) 0, s1 (some p19) (.ld (tm p18)) 1, s1 (some p20) (.mv (tm p2)) 2, s1 (some p21) (.bin .neq (tm p19) (tm p20)) 3, s1 (some p17) (.mv (tm p21)) 4])
  (CC.cond (tm p17) (CC.seq (CC.run [s1 (some p22) (.mv (tm p1)) 0, s1 (some p8) (.mv (tm p22)) 1])
  CC.ret)
  (CC.seq (CC.run [s1 (some p24) (.mv (tm p3)) 0, s1 (some p23) (.mv (tm p24)) 1])
  (CC.cond (tm p23) (CC.seq (CC.run [s1 (some p25) (.fldA 2 (tm p9)) 0, s1 (some p26) (.ld (tm p25)) 1, s1 (some p8) (.mv (tm p26)) 2])
  CC.ret)
  CC.skip)))))
  (CC.seq (CC.run [s1 (some p27) (.fldA 1 (tm p9)) 0, s1 (some p28) (.ld (tm p27)) 1, s1 (some p8) (.mv (tm p28)) 2])
  CC.ret)))), [CRes.tmp p8]⟩
theorem lit233_ok : fnO tys 233 Tryz.f233 = some lit233 := by kernel_rfl
noncomputable def lit234 : CFn :=
  ⟨234, 54, (CC.seq (CC.run [s1 (some p8) (.mv (cn (i3 (nn 0)))) 0])
  (CC.seq (CC.seq (CC.run [s1 (some p12) (.mv (tm p2)) 0, s1 (some p13) (.mv (tm p3)) 1, s1 (some p14) (.bin .eql (tm p12) (tm p13)) 2])
  (CC.cond (tm p14) (CC.seq (CC.run [s1 (some p15) (.mv (tm p2)) 0, s1 (some p8) (.mv (tm p15)) 1])
  CC.ret)
  CC.skip))
  (CC.seq (CC.run [s1 (some p16) (.mv (tm p1)) 0, s1 (some p17) (.mv (tm p2)) 1, s1 (some p18) (.mv (tm p3)) 2, s1 (some p19) (.build [(i3 (nn 0)), (i3 (nn 0)), (i3 (nn 0))] [(0, 1, (tm p16)), (1, 1, (tm p17)), (2, 1, (tm p18))]) 3, s1 (some p9) (.new 276 [(i3 (nn 0)), (i3 (nn 0)), (i3 (nn 0))]) 4, s1 none (.st 3 (tm p9) (tm p19)) 5])
  (CC.seq (CC.draw [] [⟨(some p21), (.mv (tm p0)), none, 0, false, true⟩, ⟨(some p22), (.nilck (tm p21)), none, 1, false, true⟩, ⟨(some p23), (.fldA 3 (tm p22)), none, 2, false, true⟩, ⟨(some p24), (.ld (tm p23)), none, 3, false, true⟩, s1 (some p25) (.ldn 3 (tm p9)) 4, s1 (some p26) (.look (KK.agg [(Lf.int .i32), (Lf.int .i32), (Lf.int .i32)]) (i3 (nn 0)) true (tm p24) (tm p25)) 5, s1 (some p20) (.mv (tm p26)) 6, ⟨(some p27), (.extr (tm p20) 0), none, 7, false, true⟩, ⟨(some p28), (.extr (tm p20) 1), none, 8, false, true⟩, s1 (some p10) (.mv (tm p27)) 9, s1 (some p11) (.mv (tm p28)) 10])
  (CC.seq (CC.seq (CC.run [s1 (some p29) (.mv (tm p11)) 0, s1 (some p30) (.not (tm p29)) 1])
  (CC.cond (tm p30) (CC.seq (CC.run [s1 (some p31) (.mv (tm p0)) 0, s1 (some p32) (.nilck (tm p31)) 1, s1 (some p33) (.fldA 2 (tm p32)) 2, s1 (some p34) (.ld (tm p33)) 3, s1 (some p35) (.len false (tm p34)) 4, s1 (some p36) (.conv .i32 (tm p35)) 5, s1 (some p10) (.mv (tm p36)) 6])
  (CC.seq (CC.draw [] [⟨(some p37), (.mv (tm p0)), none, 0, false, false⟩, ⟨(some p38), (.mv (tm p0)), none, 1, false, true⟩, ⟨(some p39), (.nilck (tm p38)), none, 2, false, true⟩, ⟨(some p40), (.fldA 2 (tm p39)), none, 3, false, true⟩, ⟨(some p41), (.ld (tm p40)), none, 4, false, true⟩, s1 (some p42) (.ldn 3 (tm p9)) 5, s1 (some p43) (.bslice 276 3 1 [(i3 (nn 0)), (i3 (nn 0)), (i3 (nn 0))] [(0, 3, (tm p42))]) 6, s1 (some p44) (.app 276 3 12 (tm p41) (tm p43)) 7, s1 (some p45) (.nilck (tm p37)) 8, s1 (some p46) (.fldA 2 (tm p45)) 9, s1 none (.st 1 (tm p46) (tm p44)) 10])
  (CC.draw [] [⟨(some p47), (.mv (tm p0)), none, 0, false, true⟩, ⟨(some p48), (.nilck (tm p47)), none, 1, false, true⟩, ⟨(some p49), (.fldA 3 (tm p48)), none, 2, false, true⟩, ⟨(some p50), (.ld (tm p49)), none, 3, false, true⟩, ⟨(some p51), (.ldn 3 (tm p9)), none, 4, false, true⟩, s1 (some p52) (.mv (tm p10)) 5, s1 none (.mupd (KK.agg [(Lf.int .i32), (Lf.int .i32), (Lf.int .i32)]) (tm p50) (tm p51) (tm p52)) 6])))
  CC.skip))
  (CC.seq (CC.run [s1 (some p53) (.mv (tm p10)) 0, s1 (some p8) (.mv (tm p53)) 1])
  CC.ret)))))), [CRes.tmp p8]⟩
theorem lit234_ok : fnO tys 234 Tryz.f234 = some lit234 := by kernel_rfl
noncomputable def lit235 : CFn :=
  ⟨235, 148, (CC.seq (CC.run [s1 (some p10) (.mv (cn (CV.bool true))) 0])
  (CC.seq (CC.run [s1 (some p11) (.mv (cn (CV.bool true))) 0])
  (CC.block 0 (CC.loop (CC.block 1 (CC.seq (CC.run [s1 (some p21) (.mv (tm p2)) 0, s1 (some p22) (.mv (tm p1)) 1, s1 (some p23) (.bin .sub (tm p21) (tm p22)) 2, s1 (some p12) (.mv (tm p23)) 3])
  (CC.seq (CC.seq (CC.run [s1 (some p24) (.mv (tm p12)) 0, s1 (some p25) (.bin .leq (tm p24) (cn (i6 (nn 12)))) 1])
  (CC.cond (tm p25) (CC.seq (CC.run [s1 (some p26) (.mv (tm p0)) 0, s1 (some p27) (.mv (tm p1)) 1, s1 (some p28) (.mv (tm p2)) 2, s1 (some p29) (.mv (tm p4)) 3, s1 (some p30) (.call (cn (CV.fn 255 [] [])) [(tm p26), (tm p27), (tm p28), (tm p29)]) 4])
  CC.ret)
  CC.skip))
  (CC.seq (CC.seq (CC.run [s1 (some p31) (.mv (tm p3)) 0, s1 (some p32) (.bin .eql (tm p31) (cn (i6 (nn 0)))) 1])
  (CC.cond (tm p32) (CC.seq (CC.run [s1 (some p33) (.mv (tm p0)) 0, s1 (some p34) (.mv (tm p1)) 1, s1 (some p35) (.mv (tm p2)) 2, s1 (some p36) (.mv (tm p4)) 3, s1 (some p37) (.call (cn (CV.fn 256 [] [])) [(tm p33), (tm p34), (tm p35), (tm p36)]) 4])
  CC.ret)
  CC.skip))
  (CC.seq (CC.seq (CC.run [s1 (some p38) (.mv (tm p10)) 0, s1 (some p39) (.not (tm p38)) 1])
  (CC.cond (tm p39) (CC.seq (CC.run [s1 (some p40) (.mv (tm p0)) 0, s1 (some p41) (.mv (tm p1)) 1, s1 (some p42) (.mv (tm p2)) 2, s1 (some p43) (.mv (tm p4)) 3, s1 (some p44) (.call (cn (CV.fn 257 [] [])) [(tm p40), (tm p41), (tm p42), (tm p43)]) 4])
  (CC.run [s1 (some p45) (.mv (tm p3)) 0, s1 (some p46) (.bin .sub (tm p45) (cn (i6 (nn 1)))) 1, s1 (some p3) (.mv (tm p46)) 2]))
  CC.skip))
  (CC.seq (CC.run [s1 (some p48) (.mv (tm p0)) 0, s1 (some p49) (.mv (tm p1)) 1, s1 (some p50) (.mv (tm p2)) 2, s1 (some p51) (.mv (tm p4)) 3, s1 (some p52) (.call (cn (CV.fn 258 [] [])) [(tm p48), (tm p49), (tm p50), (tm p51)]) 4, s1 (some p47) (.mv (tm p52)) 5, s1 (some p53) (.extr (tm p47) 0) 6, s1 (some p54) (.extr (tm p47) 1) 7, s1 (some p13) (.mv (tm p53)) 8, s1 (some p14) (.mv (tm p54)) 9])
  (CC.seq (CC.seq (CC.run [s1 (some p55) (.mv (tm p14)) 0, s1 (some p56) (.bin .eql (tm p55) (cn (i6 (nn 2)))) 1])
  (CC.cond (tm p56) (CC.seq (CC.run [s1 (some p57) (.mv (tm p0)) 0, s1 (some p58) (.mv (tm p1)) 1, s1 (some p59) (.mv (tm p2)) 2, s1 (some p60) (.mv (tm p4)) 3, s1 (some p61) (.call (cn (CV.fn 259 [] [])) [(tm p57), (tm p58), (tm p59), (tm p60)]) 4])
  (CC.seq (CC.run [s1 (some p62) (.mv (tm p2)) 0, s1 (some p63) (.bin .sub (tm p62) (cn (i6 (nn 1)))) 1, s1 (some p64) (.mv (tm p13)) 2, s1 (some p65) (.mv (tm p1)) 3, s1 (some p66) (.bin .sub (tm p64) (tm p65)) 4, s1 (some p67) (.bin .sub (tm p63) (tm p66)) 5, s1 (some p13) (.mv (tm p67)) 6])
  (CC.run [s1 (some p14) (.mv (cn (i6 (nn 1)))) 0])))
  CC.skip))
  (CC.seq (CC.seq (CC.run [s1 (some p68) (.mv (tm p10)) 0, s1 (some p69) (.mv (tm p68)) 1, ⟨(some p70), (.mv (tm p11)), (some (p69, true)), 2, true, true⟩, s1 (some p71) (.pick (tm p69) (tm p70) (cn (CV.bool false))) 3, s1 (some p72) (.mv (tm p71)) 4, ⟨(some p73), (.mv (tm p14)), (some (p72, true)), 5, true, true⟩, ⟨(some p74), (.bin .eql (tm p73) (cn (i6 (nn 1)))), (some (p72, true)), 6, true, true⟩, s1 (some p75) (.pick (tm p72) (tm p74) (cn (CV.bool false))) 7])
  (CC.cond (tm p75) (CC.seq (CC.run [s1 (some p76) (.mv (tm p0)) 0, s1 (some p77) (.mv (tm p1)) 1, s1 (some p78) (.mv (tm p2)) 2, s1 (some p79) (.mv (tm p4)) 3, s1 (some p80) (.call (cn (CV.fn 260 [] [])) [(tm p76), (tm p77), (tm p78), (tm p79)]) 4])
  (CC.cond (tm p80) CC.ret
  CC.skip))
  CC.skip))
  (CC.seq (CC.seq (CC.draw [] [s1 (some p81) (.mv (tm p1)) 0, s1 (some p82) (.bin .gtr (tm p81) (cn (i6 (nn 0)))) 1, s1 (some p83) (.mv (tm p82)) 2, ⟨(some p84), (.mv (tm p4)), (some (p83, true)), 3, false, true⟩, ⟨(some p85), (.mv (tm p0)), (some (p83, true)), 4, false, true⟩, ⟨(some p86), (.mv (tm p1)), (some (p83, true)), 5, false, true⟩, ⟨(some p87), (.bin .sub (tm p86) (cn (i6 (nn 1)))), (some (p83, true)), 6, false, true⟩, ⟨(some p88), (.idxAS 2 (tm p85) (tm p87)), (some (p83, true)), 7, false, true⟩, ⟨(some p89), (.ldn 2 (tm p88)), (some (p83, true)), 8, false, true⟩, ⟨(some p90), (.mv (tm p0)), (some (p83, true)), 9, false, true⟩, ⟨(some p91), (.mv (tm p13)), (some (p83, true)), 10, true, true⟩, ⟨(some p92), (.idxAS 2 (tm p90) (tm p91)), (some (p83, true)), 11, true, true⟩, ⟨(some p93), (.ldn 2 (tm p92)), (some (p83, true)), 12, true, true⟩, ⟨(some p94), (.call (tm p84) [(tm p89), (tm p93)]), (some (p83, true)), 13, true, true⟩, ⟨(some p95), (.bin .lss (tm p94) (cn (i6 (nn 0)))), (some (p83, true)), 14, true, true⟩, ⟨(some p96), (.not (tm p95)), (some (p83, true)), 15, true, true⟩, s1 (some p97) (.pick (tm p83) (tm p96) (cn (CV.bool false))) 16])
  (CC.cond (tm p97) (CC.seq (CC.run [s1 (some p98) (.mv (tm p0)) 0, s1 (some p99) (.mv (tm p1)) 1, s1 (some p100) (.mv (tm p2)) 2, s1 (some p101) (.mv (tm p13)) 3, s1 (some p102) (.mv (tm p4)) 4, s1 (some p103) (.call (cn (CV.fn 261 [] [])) [(tm p98), (tm p99), (tm p100), (tm p101), (tm p102)]) 5, s1 (some p15) (.mv (tm p103)) 6])
  (CC.seq (CC.run [s1 (some p104) (.mv (tm p15)) 0, s1 (some p1) (.mv (tm p104)) 1])
  (CC.exit 1)))
  CC.skip))
  (CC.seq (CC.run [s1 (some p106) (.mv (tm p0)) 0, s1 (some p107) (.mv (tm p1)) 1, s1 (some p108) (.mv (tm p2)) 2, s1 (some p109) (.mv (tm p13)) 3, s1 (some p110) (.mv (tm p4)) 4, s1 (some p111) (.call (cn (CV.fn 262 [] [])) [(tm p106), (tm p107), (tm p108), (tm p109), (tm p110)]) 5, s1 (some p105) (.mv (tm p111)) 6, s1 (some p112) (.extr (tm p105) 0) 7, s1 (some p113) (.extr (tm p105) 1) 8, s1 (some p16) (.mv (tm p112)) 9, s1 (some p17) (.mv (tm p113)) 10])
  (CC.seq (CC.run [s1 (some p114) (.mv (tm p17)) 0, s1 (some p11) (.mv (tm p114)) 1])
  (CC.seq (CC.run [s1 (some p115) (.mv (tm p16)) 0, s1 (some p116) (.mv (tm p1)) 1, s1 (some p117) (.bin .sub (tm p115) (tm p116)) 2, s1 (some p118) (.mv (tm p2)) 3, s1 (some p119) (.mv (tm p16)) 4, s1 (some p120) (.bin .sub (tm p118) (tm p119)) 5, s1 (some p18) (.mv (tm p117)) 6, s1 (some p19) (.mv (tm p120)) 7])
  (CC.seq (CC.run [s1 (some p121) (.mv (tm p12)) 0, s1 (some p122) (.bin .quo (tm p121) (cn (i6 (nn 8)))) 1, s1 (some p20) (.mv (tm p122)) 2])
  (CC.seq (CC.run [s1 (some p123) (.mv (tm p18)) 0, s1 (some p124) (.mv (tm p19)) 1, s1 (some p125) (.bin .lss (tm p123) (tm p124)) 2])
  (CC.cond (tm p125) (CC.seq (CC.run [s1 (some p126) (.mv (tm p18)) 0, s1 (some p127) (.mv (tm p20)) 1, s1 (some p128) (.bin .geq (tm p126) (tm p127)) 2, s1 (some p10) (.mv (tm p128)) 3])
  (CC.seq (CC.run [s1 (some p129) (.mv (tm p0)) 0, s1 (some p130) (.mv (tm p1)) 1, s1 (some p131) (.mv (tm p16)) 2, s1 (some p132) (.mv (tm p3)) 3, s1 (some p133) (.mv (tm p4)) 4, s1 (some p134) (.call (cn (CV.fn 235 [] [])) [(tm p129), (tm p130), (tm p131), (tm p132), (tm p133)]) 5])
  (CC.run [s1 (some p135) (.mv (tm p16)) 0, s1 (some p136) (.bin .add (tm p135) (cn (i6 (nn 1)))) 1, s1 (some p1) (.mv (tm p136)) 2])))
  (CC.seq (CC.run [s1 (some p137) (.mv (tm p19)) 0, s1 (some p138) (.mv (tm p20)) 1, s1 (some p139) (.bin .geq (tm p137) (tm p138)) 2, s1 (some p10) (.mv (tm p139)) 3])
  (CC.seq (CC.run [s1 (some p140) (.mv (tm p0)) 0, s1 (some p141) (.mv (tm p16)) 1, s1 (some p142) (.bin .add (tm p141) (cn (i6 (nn 1)))) 2, s1 (some p143) (.mv (tm p2)) 3, s1 (some p144) (.mv (tm p3)) 4, s1 (some p145) (.mv (tm p4)) 5, s1 (some p146) (.call (cn (CV.fn 235 [] [])) [(tm p140), (tm p142), (tm p143), (tm p144), (tm p145)]) 6])
  (CC.run [s1 (some p147) (.mv (tm p16)) 0, s1 (some p2) (.mv (tm p147)) 1])))))))))))))))))))))), []⟩
theorem lit235_ok : fnO tys 235 Tryz.f235 = some lit235 := by kernel_rfl
noncomputable def lit236 : CFn :=
  ⟨236, 8, (CC.seq (CC.run [s1 (some p2) (.mv (cn (i6 (nn 0)))) 0])
  (CC.seq (CC.cond (cn (CV.bool false)) (CC.seq (CC.run [s1 (some p3) (.mv (tm p0)) 0, s1 (some p4) (.conv .u32 (tm p3)) 1, s1 (some p5) (.call (cn (CV.fn 263 [] [])) [(tm p4)]) 2, s1 (some p2) (.mv (tm p5)) 3])
  CC.ret)
  CC.skip)
  (CC.seq (CC.run [s1 (some p6) (.mv (tm p0)) 0, s1 (some p7) (.call (cn (CV.fn 264 [] [])) [(tm p6)]) 1, s1 (some p2) (.mv (tm p7)) 2])
  CC.ret))), [CRes.tmp p2]⟩
theorem lit236_ok : fnO tys 236 Tryz.f236 = some lit236 := by kernel_rfl
noncomputable def lit237 : CFn :=
  ⟨237, 6, (CC.seq (CC.run [s1 (some p2) (.mv (cn (CV.bool false))) 0])
  (CC.seq (CC.run [s1 (some p3) (.mv (tm p0)) 0, s1 (some p4) (.mv (tm p0)) 1, s1 (some p5) (.bin .neq (tm p3) (tm p4)) 2, s1 (some p2) (.mv (tm p5)) 3])
  CC.ret)), [CRes.tmp p2]⟩
theorem lit237_ok : fnO tys 237 Tryz.f237 = some lit237 := by kernel_rfl
noncomputable def lit238 : CFn :=
  ⟨238, 28, (CC.seq (CC.run [s1 (some p4) (.mv (cn (i6 (nn 0)))) 0, s1 (some p5) (.mv (cn (i6 (nn 0)))) 1])
  (CC.seq (CC.block 0 (CC.seq (CC.run [s1 (some p7) (.mv (tm p0)) 0, s1 (some p8) (.eqs false EK.ptr (tm p7) (cn CV.nilp)) 1, s1 (some p6) (.mv (tm p8)) 2])
  (CC.cond (tm p6) (CC.seq (CC.run [s1 (some p4) (.mv (cn (i6 (nn 0)))) 0, s1 (some p5) (.mv (cn (i6 (nn 2)))) 1])
  CC.ret)
  (CC.seq (CC.run [s1 (some p10) (.mv (tm p1)) 0, s1 (some p11) (.bin .lss (tm p10) (cn (i6 (nn 0)))) 1, s1 (some p12) (.mv (tm p11)) 2, ⟨(some p13), (.mv (tm p1)), (some (p12, false)), 3, true, true⟩, ⟨(some p14), (.mv (tm p0)), (some (p12, false)), 4, true, true⟩, ⟨(some p15), (.nilck (tm p14)), (some (p12, false)), 5, true, true⟩, ⟨(some p16), (.fldA 0 (tm p15)), (some (p12, false)), 6, true, true⟩, ⟨(some p17), (.ld (tm p16)), (some (p12, false)), 7, true, true⟩, ⟨(some p18), (.bin .geq (tm p13) (tm p17)), (some (p12, false)), 8, true, true⟩, s1 (some p19) (.pick (tm p12) (cn (CV.bool true)) (tm p18)) 9, s1 (some p9) (.mv (tm p19)) 10])
  (CC.cond (tm p9) (CC.seq (CC.run [s1 (some p4) (.mv (cn (i6 (nn 0)))) 0, s1 (some p5) (.mv (cn (i6 (nn 1)))) 1])
  CC.ret)
  CC.skip)))))
  (CC.seq (CC.run [s1 (some p20) (.mv (tm p0)) 0, s1 (some p21) (.mv (tm p0)) 1, s1 (some p22) (.mv (tm p1)) 2, s1 (some p23) (.conv .i32 (tm p22)) 3, s1 (some p24) (.call (cn (CV.fn 234 [] [])) [(tm p21), (tm p23), (cn (i3 (nn 0))), (cn (i3 (nn 1)))]) 4, s1 (some p25) (.call (cn (CV.fn 209 [] [])) [(tm p20), (tm p24)]) 5, s1 (some p26) (.extr (tm p25) 0) 6, s1 (some p27) (.extr (tm p25) 1) 7, s1 (some p4) (.mv (tm p26)) 8, s1 (some p5) (.mv (tm p27)) 9])
  CC.ret))), [CRes.tmp p4, CRes.tmp p5]⟩
theorem lit238_ok : fnO tys 238 Tryz.f238 = some lit238 := by kernel_rfl
noncomputable def lit239 : CFn :=
  ⟨239, 11, (CC.seq (CC.run [s1 (some p4) (.mv (cn (i6 (nn 0)))) 0, s1 (some p5) (.mv (cn (i6 (nn 0)))) 1])
  (CC.seq (CC.run [s1 (some p6) (.mv (tm p0)) 0, s1 (some p7) (.mv (tm p1)) 1, s1 (some p8) (.call (cn (CV.fn 120 [] [])) [(tm p6), (tm p7), (cn (i6 (nn 0))), (cn (i6 (nn 1)))]) 2, s1 (some p9) (.extr (tm p8) 0) 3, s1 (some p10) (.extr (tm p8) 1) 4, s1 (some p4) (.mv (tm p9)) 5, s1 (some p5) (.mv (tm p10)) 6])
  CC.ret)), [CRes.tmp p4, CRes.tmp p5]⟩
theorem lit239_ok : fnO tys 239 Tryz.f239 = some lit239 := by kernel_rfl
noncomputable def lit250 : CFn :=
  ⟨250, 14, (CC.seq (CC.run [s1 (some p3) (.box 174 (tm p0)) 0, s1 (some p5) (.box 331 (tm p2)) 1])
  (CC.seq (CC.run [s1 (some p8) .mkmap 0, s1 none (.mupd KK.int (tm p8) (cn (i3 (nn 0))) (cn (i6 (nn 1)))) 1, s1 none (.mupd KK.int (tm p8) (cn (i3 (nn 1))) (cn (i6 (nn 1)))) 2, s1 (some p9) (.mv (tm p8)) 3, s1 (some p6) (.new 330 [CV.nilm]) 4, s1 none (.st 1 (tm p6) (tm p9)) 5])
  (CC.seq (CC.run [s1 (some p7) (.new 331 [CV.nilf]) 0])
  (CC.seq (CC.run [s1 (some p10) (.mkfn 268 [] [(tm p6), (tm p5), (tm p7), (tm p3)]) 0, s1 none (.st 1 (tm p7) (tm p10)) 1])
  (CC.run [s1 (some p11) (.ld (tm p7)) 0, s1 (some p12) (.mv (tm p1)) 1, s1 (some p13) (.call (tm p11) [(tm p12)]) 2]))))), []⟩
theorem lit250_ok : fnO tys 250 Tryz.f250 = some lit250 := by kernel_rfl
noncomputable def lit251 : CFn :=
  ⟨251, 5, (CC.run [s1 (some p3) (.ld (tm p1)) 0, s1 (some p4) (.bin .add (tm p3) (cn (i6 (nn 1)))) 1, s1 none (.st 1 (tm p1) (tm p4)) 2]), []⟩
theorem lit251_ok : fnO tys 251 Tryz.f251 = some lit251 := by kernel_rfl
noncomputable def lit252 : CFn :=
  ⟨252, 16, (CC.draw [] [⟨(some p4), (.ld (tm p1)), none, 0, false, true⟩, ⟨(some p5), (.ld (tm p2)), none, 1, false, true⟩, ⟨(some p6), (.nilck (tm p5)), none, 2, false, true⟩, ⟨(some p7), (.fldA 2 (tm p6)), none, 3, false, true⟩, ⟨(some p8), (.ld (tm p7)), none, 4, false, true⟩, s1 (some p9) (.mv (tm p0)) 5, s1 (some p10) (.idxAS 3 (tm p8) (tm p9)) 6, s1 (some p11) (.fldA 0 (tm p10)) 7, s1 (some p12) (.ld (tm p11)) 8, s1 (some p13) (.conv .i64 (tm p12)) 9, s1 (some p14) (.bslice 3 1 1 [(i6 (nn 0))] [(0, 1, (tm p13))]) 10, s1 (some p15) (.app 3 1 8 (tm p4) (tm p14)) 11, s1 none (.st 1 (tm p1) (tm p15)) 12]), []⟩
theorem lit252_ok : fnO tys 252 Tryz.f252 = some lit252 := by kernel_rfl
noncomputable def lit253 : CFn :=
  ⟨253, 11, (CC.seq (CC.run [s1 (some p3) (.mv (tm p0)) 0, s1 (some p4) (.len false (tm p3)) 1, s1 (some p2) (.mv (tm p4)) 2])
  (CC.run [s1 (some p5) (.mv (tm p0)) 0, s1 (some p6) (.mv (tm p2)) 1, s1 (some p7) (.mv (tm p2)) 2, s1 (some p8) (.conv .u64 (tm p7)) 3, s1 (some p9) (.call (cn (CV.fn 236 [] [])) [(tm p8)]) 4, s1 (some p10) (.call (cn (CV.fn 269 [] [])) [(tm p5), (cn (i6 (nn 0))), (tm p6), (tm p9)]) 5])), []⟩
theorem lit253_ok : fnO tys 253 Tryz.f253 = some lit253 := by kernel_rfl
noncomputable def lit254 : CFn :=
  ⟨254, 61, (CC.seq (CC.run [s1 (some p2) (.mv (cn CV.nils)) 0])
  (CC.seq (CC.seq (CC.run [s1 (some p6) (.mv (tm p0)) 0, s1 (some p7) (.len false (tm p6)) 1, s1 (some p8) (.bin .lss (tm p7) (cn (i6 (nn 2)))) 2])
  (CC.cond (tm p8) (CC.seq (CC.run [s1 (some p9) (.mv (tm p0)) 0, s1 (some p2) (.mv (tm p9)) 1])
  CC.ret)
  CC.skip))
  (CC.seq (CC.seq (CC.run [s1 (some p3) (.mv (cn (i6 (nn 1)))) 0])
  (CC.block 0 (CC.loop (CC.seq (CC.seq (CC.run [s1 (some p10) (.mv (tm p3)) 0, s1 (some p11) (.mv (tm p0)) 1, s1 (some p12) (.len false (tm p11)) 2, s1 (some p13) (.bin .lss (tm p10) (tm p12)) 3])
  (CC.cond (tm p13) CC.skip
  (CC.exit 0)))
  (CC.seq (CC.block 1 (CC.seq (CC.draw [] [⟨(some p16), (.mv (tm p0)), none, 0, false, true⟩, ⟨(some p17), (.mv (tm p3)), none, 1, false, true⟩, ⟨(some p18), (.idxAS 1 (tm p16) (tm p17)), none, 2, false, true⟩, ⟨(some p19), (.ld (tm p18)), none, 3, false, true⟩, ⟨(some p20), (.mv (tm p0)), none, 4, false, true⟩, s1 (some p21) (.mv (tm p3)) 5, s1 (some p22) (.bin .sub (tm p21) (cn (i6 (nn 1)))) 6, s1 (some p23) (.idxAS 1 (tm p20) (tm p22)) 7, s1 (some p24) (.ld (tm p23)) 8, s1 (some p25) (.bin .eql (tm p19) (tm p24)) 9])
  (CC.cond (tm p25) (CC.seq (CC.run [s1 (some p26) (.mv (tm p0)) 0, s1 (some p27) (.mv (tm p3)) 1, s1 (some p28) (.slice 1 (tm p26) (some (tm p27)) none) 2, s1 (some p4) (.mv (tm p28)) 3])
  (CC.seq (CC.seq (CC.run [s1 (some p5) (.mv (cn (i6 (nn 1)))) 0])
  (CC.block 2 (CC.loop (CC.seq (CC.seq (CC.run [s1 (some p29) (.mv (tm p5)) 0, s1 (some p30) (.mv (tm p4)) 1, s1 (some p31) (.len false (tm p30)) 2, s1 (some p32) (.bin .lss (tm p29) (tm p31)) 3])
  (CC.cond (tm p32) CC.skip
  (CC.exit 2)))
  (CC.seq (CC.block 3 (CC.seq (CC.draw [] [⟨(some p35), (.mv (tm p4)), none, 0, false, true⟩, ⟨(some p36), (.mv (tm p5)), none, 1, false, true⟩, ⟨(some p37), (.idxAS 1 (tm p35) (tm p36)), none, 2, false, true⟩, ⟨(some p38), (.ld (tm p37)), none, 3, false, true⟩, ⟨(some p39), (.mv (tm p4)), none, 4, false, true⟩, s1 (some p40) (.mv (tm p5)) 5, s1 (some p41) (.bin .sub (tm p40) (cn (i6 (nn 1)))) 6, s1 (some p42) (.idxAS 1 (tm p39) (tm p41)) 7, s1 (some p43) (.ld (tm p42)) 8, s1 (some p44) (.bin .neq (tm p38) (tm p43)) 9])
  (CC.cond (tm p44) (CC.seq (CC.run [s1 (some p45) (.mv (tm p0)) 0, s1 (some p46) (.mv (tm p3)) 1, s1 (some p47) (.mv (tm p4)) 2, s1 (some p48) (.mv (tm p5)) 3, s1 (some p49) (.idxAS 1 (tm p47) (tm p48)) 4, s1 (some p50) (.ld (tm p49)) 5, s1 (some p51) (.idxAS 1 (tm p45) (tm p46)) 6, s1 none (.st 1 (tm p51) (tm p50)) 7])
  (CC.run [s1 (some p52) (.mv (tm p3)) 0, s1 (some p53) (.bin .add (tm p52) (cn (i6 (nn 1)))) 1, s1 (some p3) (.mv (tm p53)) 2]))
  CC.skip)))
  (CC.run [s1 (some p33) (.mv (tm p5)) 0, s1 (some p34) (.bin .add (tm p33) (cn (i6 (nn 1)))) 1, s1 (some p5) (.mv (tm p34)) 2]))))))
  (CC.seq (CC.run [s1 (some p54) (.mv (tm p0)) 0, s1 (some p55) (.mv (tm p3)) 1, s1 (some p56) (.slice 1 (tm p54) (some (tm p55)) none) 2, s1 none (.clr 1 [(i6 (nn 0))] (tm p56)) 3])
  (CC.seq (CC.run [s1 (some p57) (.mv (tm p0)) 0, s1 (some p58) (.mv (tm p3)) 1, s1 (some p59) (.slice 1 (tm p57) none (some (tm p58))) 2, s1 (some p2) (.mv (tm p59)) 3])
  CC.ret))))
  CC.skip)))
  (CC.run [s1 (some p14) (.mv (tm p3)) 0, s1 (some p15) (.bin .add (tm p14) (cn (i6 (nn 1)))) 1, s1 (some p3) (.mv (tm p15)) 2]))))))
  (CC.seq (CC.run [s1 (some p60) (.mv (tm p0)) 0, s1 (some p2) (.mv (tm p60)) 1])
  CC.ret)))), [CRes.tmp p2]⟩
theorem lit254_ok : fnO tys 254 Tryz.f254 = some lit254 := by kernel_rfl
noncomputable def lit255 : CFn :=
  ⟨255, 53, (CC.seq (CC.run [s1 (some p10) (.mv (tm p1)) 0, s1 (some p11) (.bin .add (tm p10) (cn (i6 (nn 1)))) 1, s1 (some p8) (.mv (tm p11)) 2])
  (CC.block 0 (CC.loop (CC.seq (CC.seq (CC.run [s1 (some p12) (.mv (tm p8)) 0, s1 (some p13) (.mv (tm p2)) 1, s1 (some p14) (.bin .lss (tm p12) (tm p13)) 2])
  (CC.cond (tm p14) CC.skip
  (CC.exit 0)))
  (CC.seq (CC.block 1 (CC.seq (CC.run [s1 (some p17) (.mv (tm p8)) 0, s1 (some p9) (.mv (tm p17)) 1])
  (CC.block 2 (CC.loop (CC.seq (CC.seq (CC.draw [] [⟨(some p18), (.mv (tm p9)), none, 0, false, true⟩, s1 (some p19) (.mv (tm p1)) 1, s1 (some p20) (.bin .gtr (tm p18) (tm p19)) 2, s1 (some p21) (.mv (tm p20)) 3, ⟨(some p22), (.mv (tm p3)), (some (p21, true)), 4, false, true⟩, ⟨(some p23), (.mv (tm p0)), (some (p21, true)), 5, false, true⟩, ⟨(some p24), (.mv (tm p9)), (some (p21, true)), 6, false, true⟩, ⟨(some p25), (.idxAS 2 (tm p23) (tm p24)), (some (p21, true)), 7, false, true⟩, ⟨(some p26), (.ldn 2 (tm p25)), (some (p21, true)), 8, false, true⟩, ⟨(some p27), (.mv (tm p0)), (some (p21, true)), 9, false, true⟩, ⟨(some p28), (.mv (tm p9)), (some (p21, true)), 10, true, true⟩, ⟨(some p29), (.bin .sub (tm p28) (cn (i6 (nn 1)))), (some (p21, true)), 11, true, true⟩, ⟨(some p30), (.idxAS 2 (tm p27) (tm p29)), (some (p21, true)), 12, true, true⟩, ⟨(some p31), (.ldn 2 (tm p30)), (some (p21, true)), 13, true, true⟩, ⟨(some p32), (.call (tm p22) [(tm p26), (tm p31)]), (some (p21, true)), 14, true, true⟩, ⟨(some p33), (.bin .lss (tm p32) (cn (i6 (nn 0)))), (some (p21, true)), 15, true, true⟩, s1 (some p34) (.pick (tm p21) (tm p33) (cn (CV.bool false))) 16])
  (CC.cond (tm p34) CC.skip
  (CC.exit 2)))
  (CC.seq (CC.block 3 (CC.draw [] [⟨(some p37), (.mv (tm p0)), none, 0, false, true⟩, ⟨(some p38), (.mv (tm p9)), none, 1, false, true⟩, ⟨(some p39), (.mv (tm p0)), none, 2, false, false⟩, ⟨(some p40), (.mv (tm p9)), none, 3, false, false⟩, ⟨(some p41), (.bin .sub (tm p40) (cn (i6 (nn 1)))), none, 4, false, false⟩, ⟨(some p42), (.mv (tm p0)), none, 5, false, true⟩, ⟨(some p43), (.mv (tm p9)), none, 6, false, true⟩, ⟨(some p44), (.bin .sub (tm p43) (cn (i6 (nn 1)))), none, 7, false, true⟩, ⟨(some p45), (.idxAS 2 (tm p42) (tm p44)), none, 8, false, true⟩, ⟨(some p46), (.ldn 2 (tm p45)), none, 9, false, true⟩, ⟨(some p47), (.mv (tm p0)), none, 10, false, true⟩, s1 (some p48) (.mv (tm p9)) 11, s1 (some p49) (.idxAS 2 (tm p47) (tm p48)) 12, s1 (some p50) (.ldn 2 (tm p49)) 13, s1 (some p51) (.idxAS 2 (tm p37) (tm p38)) 14, s1 none (.st 2 (tm p51) (tm p46)) 15, s1 (some p52) (.idxAS 2 (tm p39) (tm p41)) 16, s1 none (.st 2 (tm p52) (tm p50)) 17]))
  (CC.run [s1 (some p35) (.mv (tm p9)) 0, s1 (some p36) (.bin .sub (tm p35) (cn (i6 (nn 1)))) 1, s1 (some p9) (.mv (tm p36)) 2])))))))
  (CC.run [s1 (some p15) (.mv (tm p8)) 0, s1 (some p16) (.bin .add (tm p15) (cn (i6 (nn 1)))) 1, s1 (some p8) (.mv (tm p16)) 2])))))), []⟩
theorem lit255_ok : fnO tys 255 Tryz.f255 = some lit255 := by kernel_rfl
noncomputable def lit256 : CFn :=
  ⟨256, 60, (CC.seq (CC.run [s1 (some p13) (.mv (tm p1)) 0, s1 (some p8) (.mv (tm p13)) 1])
  (CC.seq (CC.run [s1 (some p9) (.mv (cn (i6 (nn 0)))) 0])
  (CC.seq (CC.run [s1 (some p14) (.mv (tm p2)) 0, s1 (some p15) (.mv (tm p1)) 1, s1 (some p16) (.bin .sub (tm p14) (tm p15)) 2, s1 (some p10) (.mv (tm p16)) 3])
  (CC.seq (CC.seq (CC.run [s1 (some p17) (.mv (tm p10)) 0, s1 (some p18) (.bin .sub (tm p17) (cn (i6 (nn 1)))) 1, s1 (some p19) (.bin .quo (tm p18) (cn (i6 (nn 2)))) 2, s1 (some p11) (.mv (tm p19)) 3])
  (CC.block 0 (CC.loop (CC.seq (CC.seq (CC.run [s1 (some p20) (.mv (tm p11)) 0, s1 (some p21) (.bin .geq (tm p20) (cn (i6 (nn 0)))) 1])
  (CC.cond (tm p21) CC.skip
  (CC.exit 0)))
  (CC.seq (CC.block 1 (CC.run [s1 (some p24) (.mv (tm p0)) 0, s1 (some p25) (.mv (tm p11)) 1, s1 (some p26) (.mv (tm p10)) 2, s1 (some p27) (.mv (tm p8)) 3, s1 (some p28) (.mv (tm p3)) 4, s1 (some p29) (.call (cn (CV.fn 270 [] [])) [(tm p24), (tm p25), (tm p26), (tm p27), (tm p28)]) 5]))
  (CC.run [s1 (some p22) (.mv (tm p11)) 0, s1 (some p23) (.bin .sub (tm p22) (cn (i6 (nn 1)))) 1, s1 (some p11) (.mv (tm p23)) 2]))))))
  (CC.seq (CC.run [s1 (some p30) (.mv (tm p10)) 0, s1 (some p31) (.bin .sub (tm p30) (cn (i6 (nn 1)))) 1, s1 (some p12) (.mv (tm p31)) 2])
  (CC.block 2 (CC.loop (CC.seq (CC.seq (CC.run [s1 (some p32) (.mv (tm p12)) 0, s1 (some p33) (.bin .geq (tm p32) (cn (i6 (nn 0)))) 1])
  (CC.cond (tm p33) CC.skip
  (CC.exit 2)))
  (CC.seq (CC.block 3 (CC.seq (CC.draw [] [⟨(some p36), (.mv (tm p0)), none, 0, false, true⟩, ⟨(some p37), (.mv (tm p8)), none, 1, false, true⟩, ⟨(some p38), (.mv (tm p0)), none, 2, false, false⟩, ⟨(some p39), (.mv (tm p8)), none, 3, false, false⟩, ⟨(some p40), (.mv (tm p12)), none, 4, false, false⟩, ⟨(some p41), (.bin .add (tm p39) (tm p40)), none, 5, false, false⟩, ⟨(some p42), (.mv (tm p0)), none, 6, false, true⟩, ⟨(some p43), (.mv (tm p8)), none, 7, false, true⟩, ⟨(some p44), (.mv (tm p12)), none, 8, false, true⟩, ⟨(some p45), (.bin .add (tm p43) (tm p44)), none, 9, false, true⟩, ⟨(some p46), (.idxAS 2 (tm p42) (tm p45)), none, 10, false, true⟩, ⟨(some p47), (.ldn 2 (tm p46)), none, 11, false, true⟩, ⟨(some p48), (.mv (tm p0)), none, 12, false, true⟩, s1 (some p49) (.mv (tm p8)) 13, s1 (some p50) (.idxAS 2 (tm p48) (tm p49)) 14, s1 (some p51) (.ldn 2 (tm p50)) 15, s1 (some p52) (.idxAS 2 (tm p36) (tm p37)) 16, s1 none (.st 2 (tm p52) (tm p47)) 17, s1 (some p53) (.idxAS 2 (tm p38) (tm p41)) 18, s1 none (.st 2 (tm p53) (tm p51)) 19])
  (CC.run [s1 (some p54) (.mv (tm p0)) 0, s1 (some p55) (.mv (tm p9)) 1, s1 (some p56) (.mv (tm p12)) 2, s1 (some p57) (.mv (tm p8)) 3, s1 (some p58) (.mv (tm p3)) 4, s1 (some p59) (.call (cn (CV.fn 270 [] [])) [(tm p54), (tm p55), (tm p56), (tm p57), (tm p58)]) 5])))
  (CC.run [s1 (some p34) (.mv (tm p12)) 0, s1 (some p35) (.bin .sub (tm p34) (cn (i6 (nn 1)))) 1, s1 (some p12) (.mv (tm p35)) 2])))))))))), []⟩
theorem lit256_ok : fnO tys 256 Tryz.f256 = some lit256 := by kernel_rfl
noncomputable def lit257 : CFn :=
  ⟨257, 67, (CC.seq (CC.run [s1 (some p13) (.mv (tm p2)) 0, s1 (some p14) (.mv (tm p1)) 1, s1 (some p15) (.bin .sub (tm p13) (tm p14)) 2, s1 (some p8) (.mv (tm p15)) 3])
  (CC.seq (CC.run [s1 (some p16) (.mv (tm p8)) 0, s1 (some p17) (.bin .geq (tm p16) (cn (i6 (nn 8)))) 1])
  (CC.cond (tm p17) (CC.seq (CC.run [s1 (some p18) (.mv (tm p8)) 0, s1 (some p19) (.conv .u64 (tm p18)) 1, s1 (some p9) (.new 355 [(CV.int .u64 (nn 0))]) 2, s1 none (.st 1 (tm p9) (tm p19)) 3])
  (CC.seq (CC.run [s1 (some p20) (.mv (tm p8)) 0, s1 (some p21) (.call (cn (CV.fn 271 [] [])) [(tm p20)]) 1, s1 (some p10) (.mv (tm p21)) 2])
  (CC.seq (CC.run [s1 (some p22) (.mv (tm p1)) 0, s1 (some p23) (.mv (tm p8)) 1, s1 (some p24) (.bin .quo (tm p23) (cn (i6 (nn 4)))) 2, s1 (some p25) (.bin .mul (tm p24) (cn (i6 (nn 2)))) 3, s1 (some p26) (.bin .add (tm p22) (tm p25)) 4, s1 (some p27) (.bin .sub (tm p26) (cn (i6 (nn 1)))) 5, s1 (some p11) (.mv (tm p27)) 6])
  (CC.block 0 (CC.loop (CC.seq (CC.seq (CC.run [s1 (some p28) (.mv (tm p11)) 0, s1 (some p29) (.mv (tm p1)) 1, s1 (some p30) (.mv (tm p8)) 2, s1 (some p31) (.bin .quo (tm p30) (cn (i6 (nn 4)))) 3, s1 (some p32) (.bin .mul (tm p31) (cn (i6 (nn 2)))) 4, s1 (some p33) (.bin .add (tm p29) (tm p32)) 5, s1 (some p34) (.bin .add (tm p33) (cn (i6 (nn 1)))) 6, s1 (some p35) (.bin .leq (tm p28) (tm p34)) 7])
  (CC.cond (tm p35) CC.skip
  (CC.exit 0)))
  (CC.seq (CC.block 1 (CC.seq (CC.run [s1 (some p38) (.call (cn (CV.fn 272 [] [])) [(tm p9)]) 0, s1 (some p39) (.mv (tm p10)) 1, s1 (some p40) (.bin .sub (tm p39) (cn (CV.int .u64 (nn 1)))) 2, s1 (some p41) (.bin .and (tm p38) (tm p40)) 3, s1 (some p42) (.conv .i64 (tm p41)) 4, s1 (some p12) (.mv (tm p42)) 5])
  (CC.seq (CC.seq (CC.run [s1 (some p43) (.mv (tm p12)) 0, s1 (some p44) (.mv (tm p8)) 1, s1 (some p45) (.bin .geq (tm p43) (tm p44)) 2])
  (CC.cond (tm p45) (CC.run [s1 (some p46) (.mv (tm p12)) 0, s1 (some p47) (.mv (tm p8)) 1, s1 (some p48) (.bin .sub (tm p46) (tm p47)) 2, s1 (some p12) (.mv (tm p48)) 3])
  CC.skip))
  (CC.draw [] [⟨(some p49), (.mv (tm p0)), none, 0, false, true⟩, ⟨(some p50), (.mv (tm p11)), none, 1, false, true⟩, ⟨(some p51), (.mv (tm p0)), none, 2, false, false⟩, ⟨(some p52), (.mv (tm p1)), none, 3, false, false⟩, ⟨(some p53), (.mv (tm p12)), none, 4, false, false⟩, ⟨(some p54), (.bin .add (tm p52) (tm p53)), none, 5, false, false⟩, ⟨(some p55), (.mv (tm p0)), none, 6, false, true⟩, ⟨(some p56), (.mv (tm p1)), none, 7, false, true⟩, ⟨(some p57), (.mv (tm p12)), none, 8, false, true⟩, ⟨(some p58), (.bin .add (tm p56) (tm p57)), none, 9, false, true⟩, ⟨(some p59), (.idxAS 2 (tm p55) (tm p58)), none, 10, false, true⟩, ⟨(some p60), (.ldn 2 (tm p59)), none, 11, false, true⟩, ⟨(some p61), (.mv (tm p0)), none, 12, false, true⟩, s1 (some p62) (.mv (tm p11)) 13, s1 (some p63) (.idxAS 2 (tm p61) (tm p62)) 14, s1 (some p64) (.ldn 2 (tm p63)) 15, s1 (some p65) (.idxAS 2 (tm p49) (tm p50)) 16, s1 none (.st 2 (tm p65) (tm p60)) 17, s1 (some p66) (.idxAS 2 (tm p51) (tm p54)) 18, s1 none (.st 2 (tm p66) (tm p64)) 19]))))
  (CC.run [s1 (some p36) (.mv (tm p11)) 0, s1 (some p37) (.bin .add (tm p36) (cn (i6 (nn 1)))) 1, s1 (some p11) (.mv (tm p37)) 2]))))))))
  CC.skip))), []⟩
theorem lit257_ok : fnO tys 257 Tryz.f257 = some lit257 := by kernel_rfl
noncomputable def lit258 : CFn :=
  ⟨258, 63, (CC.seq (CC.run [s1 (some p8) (.mv (cn (i6 (nn 0)))) 0, s1 (some p9) (.mv (cn (i6 (nn 0)))) 1])
  (CC.seq (CC.run [s1 (some p15) (.mv (tm p2)) 0, s1 (some p16) (.mv (tm p1)) 1, s1 (some p17) (.bin .sub (tm p15) (tm p16)) 2, s1 (some p10) (.mv (tm p17)) 3])
  (CC.seq (CC.run [s1 (some p11) (.new 3 [(i6 (nn 0))]) 0])
  (CC.seq (CC.run [s1 (some p18) (.mv (tm p1)) 0, s1 (some p19) (.mv (tm p10)) 1, s1 (some p20) (.bin .quo (tm p19) (cn (i6 (nn 4)))) 2, s1 (some p21) (.bin .mul (tm p20) (cn (i6 (nn 1)))) 3, s1 (some p22) (.bin .add (tm p18) (tm p21)) 4, s1 (some p12) (.mv (tm p22)) 5])
  (CC.seq (CC.run [s1 (some p23) (.mv (tm p1)) 0, s1 (some p24) (.mv (tm p10)) 1, s1 (some p25) (.bin .quo (tm p24) (cn (i6 (nn 4)))) 2, s1 (some p26) (.bin .mul (tm p25) (cn (i6 (nn 2)))) 3, s1 (some p27) (.bin .add (tm p23) (tm p26)) 4, s1 (some p13) (.mv (tm p27)) 5])
  (CC.seq (CC.run [s1 (some p28) (.mv (tm p1)) 0, s1 (some p29) (.mv (tm p10)) 1, s1 (some p30) (.bin .quo (tm p29) (cn (i6 (nn 4)))) 2, s1 (some p31) (.bin .mul (tm p30) (cn (i6 (nn 3)))) 3, s1 (some p32) (.bin .add (tm p28) (tm p31)) 4, s1 (some p14) (.mv (tm p32)) 5])
  (CC.seq (CC.seq (CC.run [s1 (some p33) (.mv (tm p10)) 0, s1 (some p34) (.bin .geq (tm p33) (cn (i6 (nn 8)))) 1])
  (CC.cond (tm p34) (CC.seq (CC.seq (CC.run [s1 (some p35) (.mv (tm p10)) 0, s1 (some p36) (.bin .geq (tm p35) (cn (i6 (nn 50)))) 1])
  (CC.cond (tm p36) (CC.seq (CC.run [s1 (some p37) (.mv (tm p0)) 0, s1 (some p38) (.mv (tm p12)) 1, s1 (some p39) (.mv (tm p3)) 2, s1 (some p40) (.call (cn (CV.fn 273 [] [])) [(tm p37), (tm p38), (tm p11), (tm p39)]) 3, s1 (some p12) (.mv (tm p40)) 4])
  (CC.seq (CC.run [s1 (some p41) (.mv (tm p0)) 0, s1 (some p42) (.mv (tm p13)) 1, s1 (some p43) (.mv (tm p3)) 2, s1 (some p44) (.call (cn (CV.fn 273 [] [])) [(tm p41), (tm p42), (tm p11), (tm p43)]) 3, s1 (some p13) (.mv (tm p44)) 4])
  (CC.run [s1 (some p45) (.mv (tm p0)) 0, s1 (some p46) (.mv (tm p14)) 1, s1 (some p47) (.mv (tm p3)) 2, s1 (some p48) (.call (cn (CV.fn 273 [] [])) [(tm p45), (tm p46), (tm p11), (tm p47)]) 3, s1 (some p14) (.mv (tm p48)) 4])))
  CC.skip))
  (CC.run [s1 (some p49) (.mv (tm p0)) 0, s1 (some p50) (.mv (tm p12)) 1, s1 (some p51) (.mv (tm p13)) 2, s1 (some p52) (.mv (tm p14)) 3, s1 (some p53) (.mv (tm p3)) 4, s1 (some p54) (.call (cn (CV.fn 274 [] [])) [(tm p49), (tm p50), (tm p51), (tm p52), (tm p11), (tm p53)]) 5, s1 (some p13) (.mv (tm p54)) 6]))
  CC.skip))
  (CC.seq (CC.run [s1 (some p55) (.ld (tm p11)) 0])
  (CC.block 0 (CC.seq (CC.run [s1 (some p58) (.bin .eql (tm p55) (cn (i6 (nn 0)))) 0, s1 (some p57) (.mv (tm p58)) 1])
  (CC.cond (tm p57) (CC.seq (CC.run [s1 (some p59) (.mv (tm p13)) 0, s1 (some p8) (.mv (tm p59)) 1, s1 (some p9) (.mv (cn (i6 (nn 1)))) 2])
  CC.ret)
  (CC.seq (CC.run [s1 (some p61) (.bin .eql (tm p55) (cn (i6 (nn 12)))) 0, s1 (some p60) (.mv (tm p61)) 1])
  (CC.cond (tm p60) (CC.seq (CC.run [s1 (some p62) (.mv (tm p13)) 0, s1 (some p8) (.mv (tm p62)) 1, s1 (some p9) (.mv (cn (i6 (nn 2)))) 2])
  CC.ret)
  (CC.seq (CC.run [s1 (some p56) (.mv (tm p13)) 0, s1 (some p8) (.mv (tm p56)) 1, s1 (some p9) (.mv (cn (i6 (nn 0)))) 2])
  CC.ret)))))))))))))), [CRes.tmp p8, CRes.tmp p9]⟩
theorem lit258_ok : fnO tys 258 Tryz.f258 = some lit258 := by kernel_rfl
end Go.Proofs.YtkiioneimheciaaGreat
