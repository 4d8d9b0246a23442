/- The functions that the run comes to: the search tree. -/
import Derived.Test.YtplaefbblpiehaaCode0
import Derived.Test.YtplaefbblpiehaaCode1
import Derived.Test.YtplaefbblpiehaaCode2
namespace Go.Proofs.YtplaefbblpiehaaEng
open Go
def codes : BT := (.nd 23 c23 (.nd 13 c13 (.nd 8 c8 (.nd 5 c5 (.nd 4 c4 (.nd 3 c3 .lf .lf) .lf) (.nd 7 c7 (.nd 6 c6 .lf .lf) .lf)) (.nd 11 c11 (.nd 10 c10 (.nd 9 c9 .lf .lf) .lf) (.nd 12 c12 .lf .lf))) (.nd 18 c18 (.nd 16 c16 (.nd 15 c15 (.nd 14 c14 .lf .lf) .lf) (.nd 17 c17 .lf .lf)) (.nd 21 c21 (.nd 20 c20 (.nd 19 c19 .lf .lf) .lf) (.nd 22 c22 .lf .lf)))) (.nd 34 c34 (.nd 28 c28 (.nd 26 c26 (.nd 25 c25 (.nd 24 c24 .lf .lf) .lf) (.nd 27 c27 .lf .lf)) (.nd 31 c31 (.nd 30 c30 (.nd 29 c29 .lf .lf) .lf) (.nd 33 c33 .lf .lf))) (.nd 39 c39 (.nd 37 c37 (.nd 36 c36 (.nd 35 c35 .lf .lf) .lf) (.nd 38 c38 .lf .lf)) (.nd 42 c42 (.nd 41 c41 (.nd 40 c40 .lf .lf) .lf) (.nd 43 c43 .lf .lf)))))
theorem codes_all : codes.all fun f c => codeOf Go.Proofs.Try.prog G0 f = some c := ⟨k23, ⟨k13, ⟨k8, ⟨k5, ⟨k4, ⟨k3, trivial, trivial⟩, trivial⟩, ⟨k7, ⟨k6, trivial, trivial⟩, trivial⟩⟩, ⟨k11, ⟨k10, ⟨k9, trivial, trivial⟩, trivial⟩, ⟨k12, trivial, trivial⟩⟩⟩, ⟨k18, ⟨k16, ⟨k15, ⟨k14, trivial, trivial⟩, trivial⟩, ⟨k17, trivial, trivial⟩⟩, ⟨k21, ⟨k20, ⟨k19, trivial, trivial⟩, trivial⟩, ⟨k22, trivial, trivial⟩⟩⟩⟩, ⟨k34, ⟨k28, ⟨k26, ⟨k25, ⟨k24, trivial, trivial⟩, trivial⟩, ⟨k27, trivial, trivial⟩⟩, ⟨k31, ⟨k30, ⟨k29, trivial, trivial⟩, trivial⟩, ⟨k33, trivial, trivial⟩⟩⟩, ⟨k39, ⟨k37, ⟨k36, ⟨k35, trivial, trivial⟩, trivial⟩, ⟨k38, trivial, trivial⟩⟩, ⟨k42, ⟨k41, ⟨k40, trivial, trivial⟩, trivial⟩, ⟨k43, trivial, trivial⟩⟩⟩⟩⟩
end Go.Proofs.YtplaefbblpiehaaEng
