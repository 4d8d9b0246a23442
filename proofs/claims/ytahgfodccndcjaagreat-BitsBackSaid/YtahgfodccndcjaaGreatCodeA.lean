/- The functions that the run comes to, compiled: names of slots. -/
import Derived.Test.YtahgfodccndcjaaGreatSym1
import Derived.Test.YtahgfodccndcjaaGreatProg
import Derived.KernelRfl
namespace Go.Proofs.YtahgfodccndcjaaGreatEng
open Go
def p0 : Pos := .h
def t0 : Arg := .t p0
def p1 : Pos := (.o .h)
def t1 : Arg := .t p1
def p2 : Pos := (.i .h)
def t2 : Arg := .t p2
def p3 : Pos := (.o (.o .h))
def t3 : Arg := .t p3
def p4 : Pos := (.i (.o .h))
def t4 : Arg := .t p4
def p5 : Pos := (.o (.i .h))
def t5 : Arg := .t p5
def p6 : Pos := (.i (.i .h))
def t6 : Arg := .t p6
def p7 : Pos := (.o (.o (.o .h)))
def t7 : Arg := .t p7
def p8 : Pos := (.i (.o (.o .h)))
def t8 : Arg := .t p8
def p9 : Pos := (.o (.i (.o .h)))
def t9 : Arg := .t p9
def p10 : Pos := (.i (.i (.o .h)))
def t10 : Arg := .t p10
def p11 : Pos := (.o (.o (.i .h)))
def t11 : Arg := .t p11
def p12 : Pos := (.i (.o (.i .h)))
def t12 : Arg := .t p12
def p13 : Pos := (.o (.i (.i .h)))
def t13 : Arg := .t p13
def p14 : Pos := (.i (.i (.i .h)))
def t14 : Arg := .t p14
def p15 : Pos := (.o (.o (.o (.o .h))))
def t15 : Arg := .t p15
def p16 : Pos := (.i (.o (.o (.o .h))))
def t16 : Arg := .t p16
def p17 : Pos := (.o (.i (.o (.o .h))))
def t17 : Arg := .t p17
def p18 : Pos := (.i (.i (.o (.o .h))))
def t18 : Arg := .t p18
def p19 : Pos := (.o (.o (.i (.o .h))))
def t19 : Arg := .t p19
def p20 : Pos := (.i (.o (.i (.o .h))))
def t20 : Arg := .t p20
def p21 : Pos := (.o (.i (.i (.o .h))))
def t21 : Arg := .t p21
def p22 : Pos := (.i (.i (.i (.o .h))))
def t22 : Arg := .t p22
def p23 : Pos := (.o (.o (.o (.i .h))))
def t23 : Arg := .t p23
def p24 : Pos := (.i (.o (.o (.i .h))))
def t24 : Arg := .t p24
def p25 : Pos := (.o (.i (.o (.i .h))))
def t25 : Arg := .t p25
def p26 : Pos := (.i (.i (.o (.i .h))))
def t26 : Arg := .t p26
def p27 : Pos := (.o (.o (.i (.i .h))))
def t27 : Arg := .t p27
def p28 : Pos := (.i (.o (.i (.i .h))))
def t28 : Arg := .t p28
def p29 : Pos := (.o (.i (.i (.i .h))))
def t29 : Arg := .t p29
def p30 : Pos := (.i (.i (.i (.i .h))))
def t30 : Arg := .t p30
def p31 : Pos := (.o (.o (.o (.o (.o .h)))))
def t31 : Arg := .t p31
def p32 : Pos := (.i (.o (.o (.o (.o .h)))))
def t32 : Arg := .t p32
def p33 : Pos := (.o (.i (.o (.o (.o .h)))))
def t33 : Arg := .t p33
def p34 : Pos := (.i (.i (.o (.o (.o .h)))))
def t34 : Arg := .t p34
def p35 : Pos := (.o (.o (.i (.o (.o .h)))))
def t35 : Arg := .t p35
def p36 : Pos := (.i (.o (.i (.o (.o .h)))))
def t36 : Arg := .t p36
def p37 : Pos := (.o (.i (.i (.o (.o .h)))))
def t37 : Arg := .t p37
def p38 : Pos := (.i (.i (.i (.o (.o .h)))))
def t38 : Arg := .t p38
def p39 : Pos := (.o (.o (.o (.i (.o .h)))))
def t39 : Arg := .t p39
def p40 : Pos := (.i (.o (.o (.i (.o .h)))))
def t40 : Arg := .t p40
def p41 : Pos := (.o (.i (.o (.i (.o .h)))))
def t41 : Arg := .t p41
def p42 : Pos := (.i (.i (.o (.i (.o .h)))))
def t42 : Arg := .t p42
def p43 : Pos := (.o (.o (.i (.i (.o .h)))))
def t43 : Arg := .t p43
def p44 : Pos := (.i (.o (.i (.i (.o .h)))))
def t44 : Arg := .t p44
def p45 : Pos := (.o (.i (.i (.i (.o .h)))))
def t45 : Arg := .t p45
def p46 : Pos := (.i (.i (.i (.i (.o .h)))))
def t46 : Arg := .t p46
def p47 : Pos := (.o (.o (.o (.o (.i .h)))))
def t47 : Arg := .t p47
def p48 : Pos := (.i (.o (.o (.o (.i .h)))))
def t48 : Arg := .t p48
def p49 : Pos := (.o (.i (.o (.o (.i .h)))))
def t49 : Arg := .t p49
def p50 : Pos := (.i (.i (.o (.o (.i .h)))))
def t50 : Arg := .t p50
def p51 : Pos := (.o (.o (.i (.o (.i .h)))))
def t51 : Arg := .t p51
def p52 : Pos := (.i (.o (.i (.o (.i .h)))))
def t52 : Arg := .t p52
def p53 : Pos := (.o (.i (.i (.o (.i .h)))))
def t53 : Arg := .t p53
def p54 : Pos := (.i (.i (.i (.o (.i .h)))))
def t54 : Arg := .t p54
def p55 : Pos := (.o (.o (.o (.i (.i .h)))))
def t55 : Arg := .t p55
def p56 : Pos := (.i (.o (.o (.i (.i .h)))))
def t56 : Arg := .t p56
def p57 : Pos := (.o (.i (.o (.i (.i .h)))))
def t57 : Arg := .t p57
def p58 : Pos := (.i (.i (.o (.i (.i .h)))))
def t58 : Arg := .t p58
def p59 : Pos := (.o (.o (.i (.i (.i .h)))))
def t59 : Arg := .t p59
def p60 : Pos := (.i (.o (.i (.i (.i .h)))))
def t60 : Arg := .t p60
def p61 : Pos := (.o (.i (.i (.i (.i .h)))))
def t61 : Arg := .t p61
def p62 : Pos := (.i (.i (.i (.i (.i .h)))))
def t62 : Arg := .t p62
def p63 : Pos := (.o (.o (.o (.o (.o (.o .h))))))
def t63 : Arg := .t p63
def p64 : Pos := (.i (.o (.o (.o (.o (.o .h))))))
def t64 : Arg := .t p64
def p65 : Pos := (.o (.i (.o (.o (.o (.o .h))))))
def t65 : Arg := .t p65
def p66 : Pos := (.i (.i (.o (.o (.o (.o .h))))))
def t66 : Arg := .t p66
def p67 : Pos := (.o (.o (.i (.o (.o (.o .h))))))
def t67 : Arg := .t p67
def p68 : Pos := (.i (.o (.i (.o (.o (.o .h))))))
def t68 : Arg := .t p68
def p69 : Pos := (.o (.i (.i (.o (.o (.o .h))))))
def t69 : Arg := .t p69
def p70 : Pos := (.i (.i (.i (.o (.o (.o .h))))))
def t70 : Arg := .t p70
def p71 : Pos := (.o (.o (.o (.i (.o (.o .h))))))
def t71 : Arg := .t p71
def p72 : Pos := (.i (.o (.o (.i (.o (.o .h))))))
def t72 : Arg := .t p72
def p73 : Pos := (.o (.i (.o (.i (.o (.o .h))))))
def t73 : Arg := .t p73
def p74 : Pos := (.i (.i (.o (.i (.o (.o .h))))))
def t74 : Arg := .t p74
def p75 : Pos := (.o (.o (.i (.i (.o (.o .h))))))
def t75 : Arg := .t p75
def p76 : Pos := (.i (.o (.i (.i (.o (.o .h))))))
def t76 : Arg := .t p76
def p77 : Pos := (.o (.i (.i (.i (.o (.o .h))))))
def t77 : Arg := .t p77
def p78 : Pos := (.i (.i (.i (.i (.o (.o .h))))))
def t78 : Arg := .t p78
def p79 : Pos := (.o (.o (.o (.o (.i (.o .h))))))
def t79 : Arg := .t p79
def p80 : Pos := (.i (.o (.o (.o (.i (.o .h))))))
def t80 : Arg := .t p80
def p81 : Pos := (.o (.i (.o (.o (.i (.o .h))))))
def t81 : Arg := .t p81
def p82 : Pos := (.i (.i (.o (.o (.i (.o .h))))))
def t82 : Arg := .t p82
def p83 : Pos := (.o (.o (.i (.o (.i (.o .h))))))
def t83 : Arg := .t p83
def p84 : Pos := (.i (.o (.i (.o (.i (.o .h))))))
def t84 : Arg := .t p84
def p85 : Pos := (.o (.i (.i (.o (.i (.o .h))))))
def t85 : Arg := .t p85
def p86 : Pos := (.i (.i (.i (.o (.i (.o .h))))))
def t86 : Arg := .t p86
def p87 : Pos := (.o (.o (.o (.i (.i (.o .h))))))
def t87 : Arg := .t p87
def p88 : Pos := (.i (.o (.o (.i (.i (.o .h))))))
def t88 : Arg := .t p88
def p89 : Pos := (.o (.i (.o (.i (.i (.o .h))))))
def t89 : Arg := .t p89
def p90 : Pos := (.i (.i (.o (.i (.i (.o .h))))))
def t90 : Arg := .t p90
def p91 : Pos := (.o (.o (.i (.i (.i (.o .h))))))
def t91 : Arg := .t p91
def p92 : Pos := (.i (.o (.i (.i (.i (.o .h))))))
def t92 : Arg := .t p92
def p93 : Pos := (.o (.i (.i (.i (.i (.o .h))))))
def t93 : Arg := .t p93
def p94 : Pos := (.i (.i (.i (.i (.i (.o .h))))))
def t94 : Arg := .t p94
def p95 : Pos := (.o (.o (.o (.o (.o (.i .h))))))
def t95 : Arg := .t p95
def p96 : Pos := (.i (.o (.o (.o (.o (.i .h))))))
def t96 : Arg := .t p96
def p97 : Pos := (.o (.i (.o (.o (.o (.i .h))))))
def t97 : Arg := .t p97
def p98 : Pos := (.i (.i (.o (.o (.o (.i .h))))))
def t98 : Arg := .t p98
def p99 : Pos := (.o (.o (.i (.o (.o (.i .h))))))
def t99 : Arg := .t p99
def p100 : Pos := (.i (.o (.i (.o (.o (.i .h))))))
def t100 : Arg := .t p100
def p101 : Pos := (.o (.i (.i (.o (.o (.i .h))))))
def t101 : Arg := .t p101
def p102 : Pos := (.i (.i (.i (.o (.o (.i .h))))))
def t102 : Arg := .t p102
def p103 : Pos := (.o (.o (.o (.i (.o (.i .h))))))
def t103 : Arg := .t p103
def p104 : Pos := (.i (.o (.o (.i (.o (.i .h))))))
def t104 : Arg := .t p104
def p105 : Pos := (.o (.i (.o (.i (.o (.i .h))))))
def t105 : Arg := .t p105
def p106 : Pos := (.i (.i (.o (.i (.o (.i .h))))))
def t106 : Arg := .t p106
def p107 : Pos := (.o (.o (.i (.i (.o (.i .h))))))
def t107 : Arg := .t p107
def p108 : Pos := (.i (.o (.i (.i (.o (.i .h))))))
def t108 : Arg := .t p108
def p109 : Pos := (.o (.i (.i (.i (.o (.i .h))))))
def t109 : Arg := .t p109
def p110 : Pos := (.i (.i (.i (.i (.o (.i .h))))))
def t110 : Arg := .t p110
def p111 : Pos := (.o (.o (.o (.o (.i (.i .h))))))
def t111 : Arg := .t p111
def p112 : Pos := (.i (.o (.o (.o (.i (.i .h))))))
def t112 : Arg := .t p112
def p113 : Pos := (.o (.i (.o (.o (.i (.i .h))))))
def t113 : Arg := .t p113
def p114 : Pos := (.i (.i (.o (.o (.i (.i .h))))))
def t114 : Arg := .t p114
def p115 : Pos := (.o (.o (.i (.o (.i (.i .h))))))
def t115 : Arg := .t p115
def p116 : Pos := (.i (.o (.i (.o (.i (.i .h))))))
def t116 : Arg := .t p116
def p117 : Pos := (.o (.i (.i (.o (.i (.i .h))))))
def t117 : Arg := .t p117
def p118 : Pos := (.i (.i (.i (.o (.i (.i .h))))))
def t118 : Arg := .t p118
def p119 : Pos := (.o (.o (.o (.i (.i (.i .h))))))
def t119 : Arg := .t p119
def p120 : Pos := (.i (.o (.o (.i (.i (.i .h))))))
def t120 : Arg := .t p120
def p121 : Pos := (.o (.i (.o (.i (.i (.i .h))))))
def t121 : Arg := .t p121
def p122 : Pos := (.i (.i (.o (.i (.i (.i .h))))))
def t122 : Arg := .t p122
def p123 : Pos := (.o (.o (.i (.i (.i (.i .h))))))
def t123 : Arg := .t p123
def p124 : Pos := (.i (.o (.i (.i (.i (.i .h))))))
def t124 : Arg := .t p124
def p125 : Pos := (.o (.i (.i (.i (.i (.i .h))))))
def t125 : Arg := .t p125
def p126 : Pos := (.i (.i (.i (.i (.i (.i .h))))))
def t126 : Arg := .t p126
def p127 : Pos := (.o (.o (.o (.o (.o (.o (.o .h)))))))
def t127 : Arg := .t p127
def p128 : Pos := (.i (.o (.o (.o (.o (.o (.o .h)))))))
def t128 : Arg := .t p128
def p129 : Pos := (.o (.i (.o (.o (.o (.o (.o .h)))))))
def t129 : Arg := .t p129
def p130 : Pos := (.i (.i (.o (.o (.o (.o (.o .h)))))))
def t130 : Arg := .t p130
def p131 : Pos := (.o (.o (.i (.o (.o (.o (.o .h)))))))
def t131 : Arg := .t p131
def p132 : Pos := (.i (.o (.i (.o (.o (.o (.o .h)))))))
def t132 : Arg := .t p132
def p133 : Pos := (.o (.i (.i (.o (.o (.o (.o .h)))))))
def t133 : Arg := .t p133
def p134 : Pos := (.i (.i (.i (.o (.o (.o (.o .h)))))))
def t134 : Arg := .t p134
def p135 : Pos := (.o (.o (.o (.i (.o (.o (.o .h)))))))
def t135 : Arg := .t p135
def p136 : Pos := (.i (.o (.o (.i (.o (.o (.o .h)))))))
def t136 : Arg := .t p136
def p137 : Pos := (.o (.i (.o (.i (.o (.o (.o .h)))))))
def t137 : Arg := .t p137
def p138 : Pos := (.i (.i (.o (.i (.o (.o (.o .h)))))))
def t138 : Arg := .t p138
def p139 : Pos := (.o (.o (.i (.i (.o (.o (.o .h)))))))
def t139 : Arg := .t p139
def p140 : Pos := (.i (.o (.i (.i (.o (.o (.o .h)))))))
def t140 : Arg := .t p140
def p141 : Pos := (.o (.i (.i (.i (.o (.o (.o .h)))))))
def t141 : Arg := .t p141
def p142 : Pos := (.i (.i (.i (.i (.o (.o (.o .h)))))))
def t142 : Arg := .t p142
def p143 : Pos := (.o (.o (.o (.o (.i (.o (.o .h)))))))
def t143 : Arg := .t p143
def p144 : Pos := (.i (.o (.o (.o (.i (.o (.o .h)))))))
def t144 : Arg := .t p144
def p145 : Pos := (.o (.i (.o (.o (.i (.o (.o .h)))))))
def t145 : Arg := .t p145
def p146 : Pos := (.i (.i (.o (.o (.i (.o (.o .h)))))))
def t146 : Arg := .t p146
def p147 : Pos := (.o (.o (.i (.o (.i (.o (.o .h)))))))
def t147 : Arg := .t p147
def p148 : Pos := (.i (.o (.i (.o (.i (.o (.o .h)))))))
def t148 : Arg := .t p148
def p149 : Pos := (.o (.i (.i (.o (.i (.o (.o .h)))))))
def t149 : Arg := .t p149
def p150 : Pos := (.i (.i (.i (.o (.i (.o (.o .h)))))))
def t150 : Arg := .t p150
def p151 : Pos := (.o (.o (.o (.i (.i (.o (.o .h)))))))
def t151 : Arg := .t p151
def p152 : Pos := (.i (.o (.o (.i (.i (.o (.o .h)))))))
def t152 : Arg := .t p152
def p153 : Pos := (.o (.i (.o (.i (.i (.o (.o .h)))))))
def t153 : Arg := .t p153
def p154 : Pos := (.i (.i (.o (.i (.i (.o (.o .h)))))))
def t154 : Arg := .t p154
def p155 : Pos := (.o (.o (.i (.i (.i (.o (.o .h)))))))
def t155 : Arg := .t p155
def p156 : Pos := (.i (.o (.i (.i (.i (.o (.o .h)))))))
def t156 : Arg := .t p156
def p157 : Pos := (.o (.i (.i (.i (.i (.o (.o .h)))))))
def t157 : Arg := .t p157
def p158 : Pos := (.i (.i (.i (.i (.i (.o (.o .h)))))))
def t158 : Arg := .t p158
def p159 : Pos := (.o (.o (.o (.o (.o (.i (.o .h)))))))
def t159 : Arg := .t p159
def p160 : Pos := (.i (.o (.o (.o (.o (.i (.o .h)))))))
def t160 : Arg := .t p160
def p161 : Pos := (.o (.i (.o (.o (.o (.i (.o .h)))))))
def t161 : Arg := .t p161
def p162 : Pos := (.i (.i (.o (.o (.o (.i (.o .h)))))))
def t162 : Arg := .t p162
def p163 : Pos := (.o (.o (.i (.o (.o (.i (.o .h)))))))
def t163 : Arg := .t p163
def p164 : Pos := (.i (.o (.i (.o (.o (.i (.o .h)))))))
def t164 : Arg := .t p164
def p165 : Pos := (.o (.i (.i (.o (.o (.i (.o .h)))))))
def t165 : Arg := .t p165
def p166 : Pos := (.i (.i (.i (.o (.o (.i (.o .h)))))))
def t166 : Arg := .t p166
def p167 : Pos := (.o (.o (.o (.i (.o (.i (.o .h)))))))
def t167 : Arg := .t p167
def p168 : Pos := (.i (.o (.o (.i (.o (.i (.o .h)))))))
def t168 : Arg := .t p168
def p169 : Pos := (.o (.i (.o (.i (.o (.i (.o .h)))))))
def t169 : Arg := .t p169
def p170 : Pos := (.i (.i (.o (.i (.o (.i (.o .h)))))))
def t170 : Arg := .t p170
def p171 : Pos := (.o (.o (.i (.i (.o (.i (.o .h)))))))
def t171 : Arg := .t p171
def p172 : Pos := (.i (.o (.i (.i (.o (.i (.o .h)))))))
def t172 : Arg := .t p172
def p173 : Pos := (.o (.i (.i (.i (.o (.i (.o .h)))))))
def t173 : Arg := .t p173
def p174 : Pos := (.i (.i (.i (.i (.o (.i (.o .h)))))))
def t174 : Arg := .t p174
def p175 : Pos := (.o (.o (.o (.o (.i (.i (.o .h)))))))
def t175 : Arg := .t p175
def p176 : Pos := (.i (.o (.o (.o (.i (.i (.o .h)))))))
def t176 : Arg := .t p176
def p177 : Pos := (.o (.i (.o (.o (.i (.i (.o .h)))))))
def t177 : Arg := .t p177
def p178 : Pos := (.i (.i (.o (.o (.i (.i (.o .h)))))))
def t178 : Arg := .t p178
def p179 : Pos := (.o (.o (.i (.o (.i (.i (.o .h)))))))
def t179 : Arg := .t p179
def p180 : Pos := (.i (.o (.i (.o (.i (.i (.o .h)))))))
def t180 : Arg := .t p180
theorem q0 : p0 = pk 0 := by kernel_rfl
theorem u0 : t0 = .t (pk 0) := by kernel_rfl
theorem q1 : p1 = pk 1 := by kernel_rfl
theorem u1 : t1 = .t (pk 1) := by kernel_rfl
theorem q2 : p2 = pk 2 := by kernel_rfl
theorem u2 : t2 = .t (pk 2) := by kernel_rfl
theorem q3 : p3 = pk 3 := by kernel_rfl
theorem u3 : t3 = .t (pk 3) := by kernel_rfl
theorem q4 : p4 = pk 4 := by kernel_rfl
theorem u4 : t4 = .t (pk 4) := by kernel_rfl
theorem q5 : p5 = pk 5 := by kernel_rfl
theorem u5 : t5 = .t (pk 5) := by kernel_rfl
theorem q6 : p6 = pk 6 := by kernel_rfl
theorem u6 : t6 = .t (pk 6) := by kernel_rfl
theorem q7 : p7 = pk 7 := by kernel_rfl
theorem u7 : t7 = .t (pk 7) := by kernel_rfl
theorem q8 : p8 = pk 8 := by kernel_rfl
theorem u8 : t8 = .t (pk 8) := by kernel_rfl
theorem q9 : p9 = pk 9 := by kernel_rfl
theorem u9 : t9 = .t (pk 9) := by kernel_rfl
theorem q10 : p10 = pk 10 := by kernel_rfl
theorem u10 : t10 = .t (pk 10) := by kernel_rfl
theorem q11 : p11 = pk 11 := by kernel_rfl
theorem u11 : t11 = .t (pk 11) := by kernel_rfl
theorem q12 : p12 = pk 12 := by kernel_rfl
theorem u12 : t12 = .t (pk 12) := by kernel_rfl
theorem q13 : p13 = pk 13 := by kernel_rfl
theorem u13 : t13 = .t (pk 13) := by kernel_rfl
theorem q14 : p14 = pk 14 := by kernel_rfl
theorem u14 : t14 = .t (pk 14) := by kernel_rfl
theorem q15 : p15 = pk 15 := by kernel_rfl
theorem u15 : t15 = .t (pk 15) := by kernel_rfl
theorem q16 : p16 = pk 16 := by kernel_rfl
theorem u16 : t16 = .t (pk 16) := by kernel_rfl
theorem q17 : p17 = pk 17 := by kernel_rfl
theorem u17 : t17 = .t (pk 17) := by kernel_rfl
theorem q18 : p18 = pk 18 := by kernel_rfl
theorem u18 : t18 = .t (pk 18) := by kernel_rfl
theorem q19 : p19 = pk 19 := by kernel_rfl
theorem u19 : t19 = .t (pk 19) := by kernel_rfl
theorem q20 : p20 = pk 20 := by kernel_rfl
theorem u20 : t20 = .t (pk 20) := by kernel_rfl
theorem q21 : p21 = pk 21 := by kernel_rfl
theorem u21 : t21 = .t (pk 21) := by kernel_rfl
theorem q22 : p22 = pk 22 := by kernel_rfl
theorem u22 : t22 = .t (pk 22) := by kernel_rfl
theorem q23 : p23 = pk 23 := by kernel_rfl
theorem u23 : t23 = .t (pk 23) := by kernel_rfl
theorem q24 : p24 = pk 24 := by kernel_rfl
theorem u24 : t24 = .t (pk 24) := by kernel_rfl
theorem q25 : p25 = pk 25 := by kernel_rfl
theorem u25 : t25 = .t (pk 25) := by kernel_rfl
theorem q26 : p26 = pk 26 := by kernel_rfl
theorem u26 : t26 = .t (pk 26) := by kernel_rfl
theorem q27 : p27 = pk 27 := by kernel_rfl
theorem u27 : t27 = .t (pk 27) := by kernel_rfl
theorem q28 : p28 = pk 28 := by kernel_rfl
theorem u28 : t28 = .t (pk 28) := by kernel_rfl
theorem q29 : p29 = pk 29 := by kernel_rfl
theorem u29 : t29 = .t (pk 29) := by kernel_rfl
theorem q30 : p30 = pk 30 := by kernel_rfl
theorem u30 : t30 = .t (pk 30) := by kernel_rfl
theorem q31 : p31 = pk 31 := by kernel_rfl
theorem u31 : t31 = .t (pk 31) := by kernel_rfl
theorem q32 : p32 = pk 32 := by kernel_rfl
theorem u32 : t32 = .t (pk 32) := by kernel_rfl
theorem q33 : p33 = pk 33 := by kernel_rfl
theorem u33 : t33 = .t (pk 33) := by kernel_rfl
theorem q34 : p34 = pk 34 := by kernel_rfl
theorem u34 : t34 = .t (pk 34) := by kernel_rfl
theorem q35 : p35 = pk 35 := by kernel_rfl
theorem u35 : t35 = .t (pk 35) := by kernel_rfl
theorem q36 : p36 = pk 36 := by kernel_rfl
theorem u36 : t36 = .t (pk 36) := by kernel_rfl
theorem q37 : p37 = pk 37 := by kernel_rfl
theorem u37 : t37 = .t (pk 37) := by kernel_rfl
theorem q38 : p38 = pk 38 := by kernel_rfl
theorem u38 : t38 = .t (pk 38) := by kernel_rfl
theorem q39 : p39 = pk 39 := by kernel_rfl
theorem u39 : t39 = .t (pk 39) := by kernel_rfl
theorem q40 : p40 = pk 40 := by kernel_rfl
theorem u40 : t40 = .t (pk 40) := by kernel_rfl
theorem q41 : p41 = pk 41 := by kernel_rfl
theorem u41 : t41 = .t (pk 41) := by kernel_rfl
theorem q42 : p42 = pk 42 := by kernel_rfl
theorem u42 : t42 = .t (pk 42) := by kernel_rfl
theorem q43 : p43 = pk 43 := by kernel_rfl
theorem u43 : t43 = .t (pk 43) := by kernel_rfl
theorem q44 : p44 = pk 44 := by kernel_rfl
theorem u44 : t44 = .t (pk 44) := by kernel_rfl
theorem q45 : p45 = pk 45 := by kernel_rfl
theorem u45 : t45 = .t (pk 45) := by kernel_rfl
theorem q46 : p46 = pk 46 := by kernel_rfl
theorem u46 : t46 = .t (pk 46) := by kernel_rfl
theorem q47 : p47 = pk 47 := by kernel_rfl
theorem u47 : t47 = .t (pk 47) := by kernel_rfl
theorem q48 : p48 = pk 48 := by kernel_rfl
theorem u48 : t48 = .t (pk 48) := by kernel_rfl
theorem q49 : p49 = pk 49 := by kernel_rfl
theorem u49 : t49 = .t (pk 49) := by kernel_rfl
theorem q50 : p50 = pk 50 := by kernel_rfl
theorem u50 : t50 = .t (pk 50) := by kernel_rfl
theorem q51 : p51 = pk 51 := by kernel_rfl
theorem u51 : t51 = .t (pk 51) := by kernel_rfl
theorem q52 : p52 = pk 52 := by kernel_rfl
theorem u52 : t52 = .t (pk 52) := by kernel_rfl
theorem q53 : p53 = pk 53 := by kernel_rfl
theorem u53 : t53 = .t (pk 53) := by kernel_rfl
theorem q54 : p54 = pk 54 := by kernel_rfl
theorem u54 : t54 = .t (pk 54) := by kernel_rfl
theorem q55 : p55 = pk 55 := by kernel_rfl
theorem u55 : t55 = .t (pk 55) := by kernel_rfl
theorem q56 : p56 = pk 56 := by kernel_rfl
theorem u56 : t56 = .t (pk 56) := by kernel_rfl
theorem q57 : p57 = pk 57 := by kernel_rfl
theorem u57 : t57 = .t (pk 57) := by kernel_rfl
theorem q58 : p58 = pk 58 := by kernel_rfl
theorem u58 : t58 = .t (pk 58) := by kernel_rfl
theorem q59 : p59 = pk 59 := by kernel_rfl
theorem u59 : t59 = .t (pk 59) := by kernel_rfl
theorem q60 : p60 = pk 60 := by kernel_rfl
theorem u60 : t60 = .t (pk 60) := by kernel_rfl
theorem q61 : p61 = pk 61 := by kernel_rfl
theorem u61 : t61 = .t (pk 61) := by kernel_rfl
theorem q62 : p62 = pk 62 := by kernel_rfl
theorem u62 : t62 = .t (pk 62) := by kernel_rfl
theorem q63 : p63 = pk 63 := by kernel_rfl
theorem u63 : t63 = .t (pk 63) := by kernel_rfl
theorem q64 : p64 = pk 64 := by kernel_rfl
theorem u64 : t64 = .t (pk 64) := by kernel_rfl
theorem q65 : p65 = pk 65 := by kernel_rfl
theorem u65 : t65 = .t (pk 65) := by kernel_rfl
theorem q66 : p66 = pk 66 := by kernel_rfl
theorem u66 : t66 = .t (pk 66) := by kernel_rfl
theorem q67 : p67 = pk 67 := by kernel_rfl
theorem u67 : t67 = .t (pk 67) := by kernel_rfl
theorem q68 : p68 = pk 68 := by kernel_rfl
theorem u68 : t68 = .t (pk 68) := by kernel_rfl
theorem q69 : p69 = pk 69 := by kernel_rfl
theorem u69 : t69 = .t (pk 69) := by kernel_rfl
theorem q70 : p70 = pk 70 := by kernel_rfl
theorem u70 : t70 = .t (pk 70) := by kernel_rfl
theorem q71 : p71 = pk 71 := by kernel_rfl
theorem u71 : t71 = .t (pk 71) := by kernel_rfl
theorem q72 : p72 = pk 72 := by kernel_rfl
theorem u72 : t72 = .t (pk 72) := by kernel_rfl
theorem q73 : p73 = pk 73 := by kernel_rfl
theorem u73 : t73 = .t (pk 73) := by kernel_rfl
theorem q74 : p74 = pk 74 := by kernel_rfl
theorem u74 : t74 = .t (pk 74) := by kernel_rfl
theorem q75 : p75 = pk 75 := by kernel_rfl
theorem u75 : t75 = .t (pk 75) := by kernel_rfl
theorem q76 : p76 = pk 76 := by kernel_rfl
theorem u76 : t76 = .t (pk 76) := by kernel_rfl
theorem q77 : p77 = pk 77 := by kernel_rfl
theorem u77 : t77 = .t (pk 77) := by kernel_rfl
theorem q78 : p78 = pk 78 := by kernel_rfl
theorem u78 : t78 = .t (pk 78) := by kernel_rfl
theorem q79 : p79 = pk 79 := by kernel_rfl
theorem u79 : t79 = .t (pk 79) := by kernel_rfl
theorem q80 : p80 = pk 80 := by kernel_rfl
theorem u80 : t80 = .t (pk 80) := by kernel_rfl
theorem q81 : p81 = pk 81 := by kernel_rfl
theorem u81 : t81 = .t (pk 81) := by kernel_rfl
theorem q82 : p82 = pk 82 := by kernel_rfl
theorem u82 : t82 = .t (pk 82) := by kernel_rfl
theorem q83 : p83 = pk 83 := by kernel_rfl
theorem u83 : t83 = .t (pk 83) := by kernel_rfl
theorem q84 : p84 = pk 84 := by kernel_rfl
theorem u84 : t84 = .t (pk 84) := by kernel_rfl
theorem q85 : p85 = pk 85 := by kernel_rfl
theorem u85 : t85 = .t (pk 85) := by kernel_rfl
theorem q86 : p86 = pk 86 := by kernel_rfl
theorem u86 : t86 = .t (pk 86) := by kernel_rfl
theorem q87 : p87 = pk 87 := by kernel_rfl
theorem u87 : t87 = .t (pk 87) := by kernel_rfl
theorem q88 : p88 = pk 88 := by kernel_rfl
theorem u88 : t88 = .t (pk 88) := by kernel_rfl
theorem q89 : p89 = pk 89 := by kernel_rfl
theorem u89 : t89 = .t (pk 89) := by kernel_rfl
theorem q90 : p90 = pk 90 := by kernel_rfl
theorem u90 : t90 = .t (pk 90) := by kernel_rfl
theorem q91 : p91 = pk 91 := by kernel_rfl
theorem u91 : t91 = .t (pk 91) := by kernel_rfl
theorem q92 : p92 = pk 92 := by kernel_rfl
theorem u92 : t92 = .t (pk 92) := by kernel_rfl
theorem q93 : p93 = pk 93 := by kernel_rfl
theorem u93 : t93 = .t (pk 93) := by kernel_rfl
theorem q94 : p94 = pk 94 := by kernel_rfl
theorem u94 : t94 = .t (pk 94) := by kernel_rfl
theorem q95 : p95 = pk 95 := by kernel_rfl
theorem u95 : t95 = .t (pk 95) := by kernel_rfl
theorem q96 : p96 = pk 96 := by kernel_rfl
theorem u96 : t96 = .t (pk 96) := by kernel_rfl
theorem q97 : p97 = pk 97 := by kernel_rfl
theorem u97 : t97 = .t (pk 97) := by kernel_rfl
theorem q98 : p98 = pk 98 := by kernel_rfl
theorem u98 : t98 = .t (pk 98) := by kernel_rfl
theorem q99 : p99 = pk 99 := by kernel_rfl
theorem u99 : t99 = .t (pk 99) := by kernel_rfl
theorem q100 : p100 = pk 100 := by kernel_rfl
theorem u100 : t100 = .t (pk 100) := by kernel_rfl
theorem q101 : p101 = pk 101 := by kernel_rfl
theorem u101 : t101 = .t (pk 101) := by kernel_rfl
theorem q102 : p102 = pk 102 := by kernel_rfl
theorem u102 : t102 = .t (pk 102) := by kernel_rfl
theorem q103 : p103 = pk 103 := by kernel_rfl
theorem u103 : t103 = .t (pk 103) := by kernel_rfl
theorem q104 : p104 = pk 104 := by kernel_rfl
theorem u104 : t104 = .t (pk 104) := by kernel_rfl
theorem q105 : p105 = pk 105 := by kernel_rfl
theorem u105 : t105 = .t (pk 105) := by kernel_rfl
theorem q106 : p106 = pk 106 := by kernel_rfl
theorem u106 : t106 = .t (pk 106) := by kernel_rfl
theorem q107 : p107 = pk 107 := by kernel_rfl
theorem u107 : t107 = .t (pk 107) := by kernel_rfl
theorem q108 : p108 = pk 108 := by kernel_rfl
theorem u108 : t108 = .t (pk 108) := by kernel_rfl
theorem q109 : p109 = pk 109 := by kernel_rfl
theorem u109 : t109 = .t (pk 109) := by kernel_rfl
theorem q110 : p110 = pk 110 := by kernel_rfl
theorem u110 : t110 = .t (pk 110) := by kernel_rfl
theorem q111 : p111 = pk 111 := by kernel_rfl
theorem u111 : t111 = .t (pk 111) := by kernel_rfl
theorem q112 : p112 = pk 112 := by kernel_rfl
theorem u112 : t112 = .t (pk 112) := by kernel_rfl
theorem q113 : p113 = pk 113 := by kernel_rfl
theorem u113 : t113 = .t (pk 113) := by kernel_rfl
theorem q114 : p114 = pk 114 := by kernel_rfl
theorem u114 : t114 = .t (pk 114) := by kernel_rfl
theorem q115 : p115 = pk 115 := by kernel_rfl
theorem u115 : t115 = .t (pk 115) := by kernel_rfl
theorem q116 : p116 = pk 116 := by kernel_rfl
theorem u116 : t116 = .t (pk 116) := by kernel_rfl
theorem q117 : p117 = pk 117 := by kernel_rfl
theorem u117 : t117 = .t (pk 117) := by kernel_rfl
theorem q118 : p118 = pk 118 := by kernel_rfl
theorem u118 : t118 = .t (pk 118) := by kernel_rfl
theorem q119 : p119 = pk 119 := by kernel_rfl
theorem u119 : t119 = .t (pk 119) := by kernel_rfl
theorem q120 : p120 = pk 120 := by kernel_rfl
theorem u120 : t120 = .t (pk 120) := by kernel_rfl
theorem q121 : p121 = pk 121 := by kernel_rfl
theorem u121 : t121 = .t (pk 121) := by kernel_rfl
theorem q122 : p122 = pk 122 := by kernel_rfl
theorem u122 : t122 = .t (pk 122) := by kernel_rfl
theorem q123 : p123 = pk 123 := by kernel_rfl
theorem u123 : t123 = .t (pk 123) := by kernel_rfl
theorem q124 : p124 = pk 124 := by kernel_rfl
theorem u124 : t124 = .t (pk 124) := by kernel_rfl
theorem q125 : p125 = pk 125 := by kernel_rfl
theorem u125 : t125 = .t (pk 125) := by kernel_rfl
theorem q126 : p126 = pk 126 := by kernel_rfl
theorem u126 : t126 = .t (pk 126) := by kernel_rfl
theorem q127 : p127 = pk 127 := by kernel_rfl
theorem u127 : t127 = .t (pk 127) := by kernel_rfl
theorem q128 : p128 = pk 128 := by kernel_rfl
theorem u128 : t128 = .t (pk 128) := by kernel_rfl
theorem q129 : p129 = pk 129 := by kernel_rfl
theorem u129 : t129 = .t (pk 129) := by kernel_rfl
theorem q130 : p130 = pk 130 := by kernel_rfl
theorem u130 : t130 = .t (pk 130) := by kernel_rfl
theorem q131 : p131 = pk 131 := by kernel_rfl
theorem u131 : t131 = .t (pk 131) := by kernel_rfl
theorem q132 : p132 = pk 132 := by kernel_rfl
theorem u132 : t132 = .t (pk 132) := by kernel_rfl
theorem q133 : p133 = pk 133 := by kernel_rfl
theorem u133 : t133 = .t (pk 133) := by kernel_rfl
theorem q134 : p134 = pk 134 := by kernel_rfl
theorem u134 : t134 = .t (pk 134) := by kernel_rfl
theorem q135 : p135 = pk 135 := by kernel_rfl
theorem u135 : t135 = .t (pk 135) := by kernel_rfl
theorem q136 : p136 = pk 136 := by kernel_rfl
theorem u136 : t136 = .t (pk 136) := by kernel_rfl
theorem q137 : p137 = pk 137 := by kernel_rfl
theorem u137 : t137 = .t (pk 137) := by kernel_rfl
theorem q138 : p138 = pk 138 := by kernel_rfl
theorem u138 : t138 = .t (pk 138) := by kernel_rfl
theorem q139 : p139 = pk 139 := by kernel_rfl
theorem u139 : t139 = .t (pk 139) := by kernel_rfl
theorem q140 : p140 = pk 140 := by kernel_rfl
theorem u140 : t140 = .t (pk 140) := by kernel_rfl
theorem q141 : p141 = pk 141 := by kernel_rfl
theorem u141 : t141 = .t (pk 141) := by kernel_rfl
theorem q142 : p142 = pk 142 := by kernel_rfl
theorem u142 : t142 = .t (pk 142) := by kernel_rfl
theorem q143 : p143 = pk 143 := by kernel_rfl
theorem u143 : t143 = .t (pk 143) := by kernel_rfl
theorem q144 : p144 = pk 144 := by kernel_rfl
theorem u144 : t144 = .t (pk 144) := by kernel_rfl
theorem q145 : p145 = pk 145 := by kernel_rfl
theorem u145 : t145 = .t (pk 145) := by kernel_rfl
theorem q146 : p146 = pk 146 := by kernel_rfl
theorem u146 : t146 = .t (pk 146) := by kernel_rfl
theorem q147 : p147 = pk 147 := by kernel_rfl
theorem u147 : t147 = .t (pk 147) := by kernel_rfl
theorem q148 : p148 = pk 148 := by kernel_rfl
theorem u148 : t148 = .t (pk 148) := by kernel_rfl
theorem q149 : p149 = pk 149 := by kernel_rfl
theorem u149 : t149 = .t (pk 149) := by kernel_rfl
theorem q150 : p150 = pk 150 := by kernel_rfl
theorem u150 : t150 = .t (pk 150) := by kernel_rfl
theorem q151 : p151 = pk 151 := by kernel_rfl
theorem u151 : t151 = .t (pk 151) := by kernel_rfl
theorem q152 : p152 = pk 152 := by kernel_rfl
theorem u152 : t152 = .t (pk 152) := by kernel_rfl
theorem q153 : p153 = pk 153 := by kernel_rfl
theorem u153 : t153 = .t (pk 153) := by kernel_rfl
theorem q154 : p154 = pk 154 := by kernel_rfl
theorem u154 : t154 = .t (pk 154) := by kernel_rfl
theorem q155 : p155 = pk 155 := by kernel_rfl
theorem u155 : t155 = .t (pk 155) := by kernel_rfl
theorem q156 : p156 = pk 156 := by kernel_rfl
theorem u156 : t156 = .t (pk 156) := by kernel_rfl
theorem q157 : p157 = pk 157 := by kernel_rfl
theorem u157 : t157 = .t (pk 157) := by kernel_rfl
theorem q158 : p158 = pk 158 := by kernel_rfl
theorem u158 : t158 = .t (pk 158) := by kernel_rfl
theorem q159 : p159 = pk 159 := by kernel_rfl
theorem u159 : t159 = .t (pk 159) := by kernel_rfl
theorem q160 : p160 = pk 160 := by kernel_rfl
theorem u160 : t160 = .t (pk 160) := by kernel_rfl
theorem q161 : p161 = pk 161 := by kernel_rfl
theorem u161 : t161 = .t (pk 161) := by kernel_rfl
theorem q162 : p162 = pk 162 := by kernel_rfl
theorem u162 : t162 = .t (pk 162) := by kernel_rfl
theorem q163 : p163 = pk 163 := by kernel_rfl
theorem u163 : t163 = .t (pk 163) := by kernel_rfl
theorem q164 : p164 = pk 164 := by kernel_rfl
theorem u164 : t164 = .t (pk 164) := by kernel_rfl
theorem q165 : p165 = pk 165 := by kernel_rfl
theorem u165 : t165 = .t (pk 165) := by kernel_rfl
theorem q166 : p166 = pk 166 := by kernel_rfl
theorem u166 : t166 = .t (pk 166) := by kernel_rfl
theorem q167 : p167 = pk 167 := by kernel_rfl
theorem u167 : t167 = .t (pk 167) := by kernel_rfl
theorem q168 : p168 = pk 168 := by kernel_rfl
theorem u168 : t168 = .t (pk 168) := by kernel_rfl
theorem q169 : p169 = pk 169 := by kernel_rfl
theorem u169 : t169 = .t (pk 169) := by kernel_rfl
theorem q170 : p170 = pk 170 := by kernel_rfl
theorem u170 : t170 = .t (pk 170) := by kernel_rfl
theorem q171 : p171 = pk 171 := by kernel_rfl
theorem u171 : t171 = .t (pk 171) := by kernel_rfl
theorem q172 : p172 = pk 172 := by kernel_rfl
theorem u172 : t172 = .t (pk 172) := by kernel_rfl
theorem q173 : p173 = pk 173 := by kernel_rfl
theorem u173 : t173 = .t (pk 173) := by kernel_rfl
theorem q174 : p174 = pk 174 := by kernel_rfl
theorem u174 : t174 = .t (pk 174) := by kernel_rfl
theorem q175 : p175 = pk 175 := by kernel_rfl
theorem u175 : t175 = .t (pk 175) := by kernel_rfl
theorem q176 : p176 = pk 176 := by kernel_rfl
theorem u176 : t176 = .t (pk 176) := by kernel_rfl
theorem q177 : p177 = pk 177 := by kernel_rfl
theorem u177 : t177 = .t (pk 177) := by kernel_rfl
theorem q178 : p178 = pk 178 := by kernel_rfl
theorem u178 : t178 = .t (pk 178) := by kernel_rfl
theorem q179 : p179 = pk 179 := by kernel_rfl
theorem u179 : t179 = .t (pk 179) := by kernel_rfl
theorem q180 : p180 = pk 180 := by kernel_rfl
theorem u180 : t180 = .t (pk 180) := by kernel_rfl
def ki (n : Int) : Arg := .k (.int .i64 n)
def kt : Arg := .k (.bool true)
def kf : Arg := .k (.bool false)
def oP (d : Pos) (o : POp) : CO := ⟨some d, .p o, none⟩
def oR (d : Pos) (o : ROp) : CO := ⟨some d, .r o, none⟩
def oA (d : Pos) (o : AOp) : CO := ⟨some d, .a o, none⟩
def oH (d : Pos) (o : HOp) : CO := ⟨some d, .h o, none⟩
def oPn (o : POp) : CO := ⟨none, .p o, none⟩
def oRn (o : ROp) : CO := ⟨none, .r o, none⟩
def oAn (o : AOp) : CO := ⟨none, .a o, none⟩
def oHn (o : HOp) : CO := ⟨none, .h o, none⟩
def bi (op : BinOp) (x y : Arg) : POp := .bin op (.sc .int) x y
def ld (x : Arg) : ROp := .load none x
def lg (n : Nat) (x : Arg) : ROp := .load (some n) x
def G0 : Nat → Option V
  | _ => none
/-- a search tree of functions -/
inductive BT where
  | lf
  | nd (k : Nat) (c : CFun) (l r : BT)
def BT.find : BT → Nat → Option CFun
  | .lf, _ => none
  | .nd k c l r, f => match Nat.beq f k with
    | true => some c
    | false => match Nat.blt f k with
      | true => l.find f
      | false => r.find f
def BT.all (Q : Nat → CFun → Prop) : BT → Prop
  | .lf => True
  | .nd k c l r => Q k c ∧ l.all Q ∧ r.all Q
theorem BT.find_all {Q : Nat → CFun → Prop} : ∀ {t : BT}, t.all Q → ∀ {f : Nat} {c : CFun}, t.find f = some c → Q f c
  | .lf, _, f, c, h => by simp [BT.find] at h
  | .nd k c' l r, ha, f, c, h => by
    simp only [BT.find] at h
    split at h
    · rename_i e
      have e' : f = k := Nat.eq_of_beq_eq_true e
      simp only [Option.some.injEq] at h
      subst h; subst e'; exact ha.1
    · split at h
      · exact BT.find_all ha.2.1 h
      · exact BT.find_all ha.2.2 h
end Go.Proofs.YtahgfodccndcjaaGreatEng
