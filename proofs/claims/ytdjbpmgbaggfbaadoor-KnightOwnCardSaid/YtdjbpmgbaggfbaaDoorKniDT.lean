import Derived.Test.YtdjbpmgbaggfbaaDoorKniD0
import Derived.Test.YtdjbpmgbaggfbaaDoorKniD1
import Derived.Test.YtdjbpmgbaggfbaaDoorKniD2
namespace Go.Proofs.Tryd.Dn
open Go.Dn

def tab : Tab := (.two 69 (.two 46 (.two 28 (.two 20 (.two 18 (.one 16 d16) (.two 19 (.one 18 d18) (.one 19 d19))) (.two 25 (.two 23 (.one 20 d20) (.one 23 d23)) (.two 26 (.one 25 d25) (.one 26 d26)))) (.two 33 (.two 29 (.one 28 d28) (.two 32 (.one 29 d29) (.one 32 d32))) (.two 38 (.two 34 (.one 33 d33) (.one 34 d34)) (.two 45 (.one 38 d38) (.one 45 d45))))) (.two 60 (.two 51 (.two 49 (.one 46 d46) (.two 50 (.one 49 d49) (.one 50 d50))) (.two 58 (.two 52 (.one 51 d51) (.one 52 d52)) (.two 59 (.one 58 d58) (.one 59 d59)))) (.two 63 (.two 61 (.one 60 d60) (.two 62 (.one 61 d61) (.one 62 d62))) (.two 65 (.two 64 (.one 63 d63) (.one 64 d64)) (.two 68 (.one 65 d65) (.one 68 d68)))))) (.two 87 (.two 77 (.two 73 (.two 70 (.one 69 d69) (.two 71 (.one 70 d70) (.one 71 d71))) (.two 75 (.two 74 (.one 73 d73) (.one 74 d74)) (.two 76 (.one 75 d75) (.one 76 d76)))) (.two 80 (.two 78 (.one 77 d77) (.two 79 (.one 78 d78) (.one 79 d79))) (.two 84 (.two 81 (.one 80 d80) (.one 81 d81)) (.two 86 (.one 84 d84) (.one 86 d86))))) (.two 95 (.two 90 (.two 88 (.one 87 d87) (.two 89 (.one 88 d88) (.one 89 d89))) (.two 92 (.two 91 (.one 90 d90) (.one 91 d91)) (.two 93 (.one 92 d92) (.one 93 d93)))) (.two 100 (.two 98 (.two 96 (.one 95 d95) (.one 96 d96)) (.two 99 (.one 98 d98) (.one 99 d99))) (.two 102 (.two 101 (.one 100 d100) (.one 101 d101)) (.two 103 (.one 102 d102) (.one 103 d103)))))))

theorem tab_ok : tab.Ok Tryd.prog := ⟨⟨⟨⟨⟨ok16, ⟨ok18, ok19⟩⟩, ⟨⟨ok20, ok23⟩, ⟨ok25, ok26⟩⟩⟩, ⟨⟨ok28, ⟨ok29, ok32⟩⟩, ⟨⟨ok33, ok34⟩, ⟨ok38, ok45⟩⟩⟩⟩, ⟨⟨⟨ok46, ⟨ok49, ok50⟩⟩, ⟨⟨ok51, ok52⟩, ⟨ok58, ok59⟩⟩⟩, ⟨⟨ok60, ⟨ok61, ok62⟩⟩, ⟨⟨ok63, ok64⟩, ⟨ok65, ok68⟩⟩⟩⟩⟩, ⟨⟨⟨⟨ok69, ⟨ok70, ok71⟩⟩, ⟨⟨ok73, ok74⟩, ⟨ok75, ok76⟩⟩⟩, ⟨⟨ok77, ⟨ok78, ok79⟩⟩, ⟨⟨ok80, ok81⟩, ⟨ok84, ok86⟩⟩⟩⟩, ⟨⟨⟨ok87, ⟨ok88, ok89⟩⟩, ⟨⟨ok90, ok91⟩, ⟨ok92, ok93⟩⟩⟩, ⟨⟨⟨ok95, ok96⟩, ⟨ok98, ok99⟩⟩, ⟨⟨ok100, ok101⟩, ⟨ok102, ok103⟩⟩⟩⟩⟩⟩

end Go.Proofs.Tryd.Dn

