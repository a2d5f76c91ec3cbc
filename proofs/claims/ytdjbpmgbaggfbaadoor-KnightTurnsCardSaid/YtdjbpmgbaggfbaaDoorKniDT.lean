import Derived.Test.YtdjbpmgbaggfbaaDoorKniD0
import Derived.Test.YtdjbpmgbaggfbaaDoorKniD1
import Derived.Test.YtdjbpmgbaggfbaaDoorKniD2
namespace Go.Proofs.Tryd.Dn
open Go.Dn

def tab : Tab := (.two 70 (.two 45 (.two 25 (.two 20 (.two 18 (.one 14 d14) (.two 19 (.one 18 d18) (.one 19 d19))) (.two 23 (.one 20 d20) (.two 24 (.one 23 d23) (.one 24 d24)))) (.two 29 (.two 26 (.one 25 d25) (.two 28 (.one 26 d26) (.one 28 d28))) (.two 34 (.two 32 (.one 29 d29) (.one 32 d32)) (.two 38 (.one 34 d34) (.one 38 d38))))) (.two 61 (.two 53 (.two 50 (.one 45 d45) (.two 52 (.one 50 d50) (.one 52 d52))) (.two 59 (.two 58 (.one 53 d53) (.one 58 d58)) (.two 60 (.one 59 d59) (.one 60 d60)))) (.two 64 (.two 62 (.one 61 d61) (.two 63 (.one 62 d62) (.one 63 d63))) (.two 68 (.two 65 (.one 64 d64) (.one 65 d65)) (.two 69 (.one 68 d68) (.one 69 d69)))))) (.two 88 (.two 78 (.two 74 (.two 71 (.one 70 d70) (.two 73 (.one 71 d71) (.one 73 d73))) (.two 76 (.two 75 (.one 74 d74) (.one 75 d75)) (.two 77 (.one 76 d76) (.one 77 d77)))) (.two 81 (.two 79 (.one 78 d78) (.two 80 (.one 79 d79) (.one 80 d80))) (.two 86 (.two 84 (.one 81 d81) (.one 84 d84)) (.two 87 (.one 86 d86) (.one 87 d87))))) (.two 96 (.two 91 (.two 89 (.one 88 d88) (.two 90 (.one 89 d89) (.one 90 d90))) (.two 93 (.two 92 (.one 91 d91) (.one 92 d92)) (.two 95 (.one 93 d93) (.one 95 d95)))) (.two 100 (.two 98 (.one 96 d96) (.two 99 (.one 98 d98) (.one 99 d99))) (.two 102 (.two 101 (.one 100 d100) (.one 101 d101)) (.two 103 (.one 102 d102) (.one 103 d103)))))))

theorem tab_ok : tab.Ok Tryd.prog := ⟨⟨⟨⟨⟨ok14, ⟨ok18, ok19⟩⟩, ⟨ok20, ⟨ok23, ok24⟩⟩⟩, ⟨⟨ok25, ⟨ok26, ok28⟩⟩, ⟨⟨ok29, ok32⟩, ⟨ok34, ok38⟩⟩⟩⟩, ⟨⟨⟨ok45, ⟨ok50, ok52⟩⟩, ⟨⟨ok53, ok58⟩, ⟨ok59, ok60⟩⟩⟩, ⟨⟨ok61, ⟨ok62, ok63⟩⟩, ⟨⟨ok64, ok65⟩, ⟨ok68, ok69⟩⟩⟩⟩⟩, ⟨⟨⟨⟨ok70, ⟨ok71, ok73⟩⟩, ⟨⟨ok74, ok75⟩, ⟨ok76, ok77⟩⟩⟩, ⟨⟨ok78, ⟨ok79, ok80⟩⟩, ⟨⟨ok81, ok84⟩, ⟨ok86, ok87⟩⟩⟩⟩, ⟨⟨⟨ok88, ⟨ok89, ok90⟩⟩, ⟨⟨ok91, ok92⟩, ⟨ok93, ok95⟩⟩⟩, ⟨⟨ok96, ⟨ok98, ok99⟩⟩, ⟨⟨ok100, ok101⟩, ⟨ok102, ok103⟩⟩⟩⟩⟩⟩

end Go.Proofs.Tryd.Dn

