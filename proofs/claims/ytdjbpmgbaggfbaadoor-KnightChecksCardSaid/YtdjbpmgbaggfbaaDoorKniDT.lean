import Derived.Test.YtdjbpmgbaggfbaaDoorKniD0
import Derived.Test.YtdjbpmgbaggfbaaDoorKniD1
import Derived.Test.YtdjbpmgbaggfbaaDoorKniD2
namespace Go.Proofs.Tryd.Dn
open Go.Dn

def tab : Tab := (.two 73 (.two 52 (.two 30 (.two 25 (.two 19 (.one 17 d17) (.two 20 (.one 19 d19) (.one 20 d20))) (.two 28 (.two 26 (.one 25 d25) (.one 26 d26)) (.two 29 (.one 28 d28) (.one 29 d29)))) (.two 42 (.two 38 (.two 35 (.one 30 d30) (.one 35 d35)) (.two 39 (.one 38 d38) (.one 39 d39))) (.two 46 (.two 45 (.one 42 d42) (.one 45 d45)) (.two 51 (.one 46 d46) (.one 51 d51))))) (.two 63 (.two 58 (.two 54 (.one 52 d52) (.two 57 (.one 54 d54) (.one 57 d57))) (.two 60 (.two 59 (.one 58 d58) (.one 59 d59)) (.two 61 (.one 60 d60) (.one 61 d61)))) (.two 69 (.two 65 (.two 64 (.one 63 d63) (.one 64 d64)) (.two 68 (.one 65 d65) (.one 68 d68))) (.two 71 (.two 70 (.one 69 d69) (.one 70 d70)) (.two 72 (.one 71 d71) (.one 72 d72)))))) (.two 88 (.two 80 (.two 76 (.two 74 (.one 73 d73) (.two 75 (.one 74 d74) (.one 75 d75))) (.two 78 (.two 77 (.one 76 d76) (.one 77 d77)) (.two 79 (.one 78 d78) (.one 79 d79)))) (.two 84 (.two 82 (.two 81 (.one 80 d80) (.one 81 d81)) (.two 83 (.one 82 d82) (.one 83 d83))) (.two 86 (.two 85 (.one 84 d84) (.one 85 d85)) (.two 87 (.one 86 d86) (.one 87 d87))))) (.two 96 (.two 91 (.two 89 (.one 88 d88) (.two 90 (.one 89 d89) (.one 90 d90))) (.two 93 (.two 92 (.one 91 d91) (.one 92 d92)) (.two 95 (.one 93 d93) (.one 95 d95)))) (.two 100 (.two 98 (.two 97 (.one 96 d96) (.one 97 d97)) (.two 99 (.one 98 d98) (.one 99 d99))) (.two 102 (.two 101 (.one 100 d100) (.one 101 d101)) (.two 103 (.one 102 d102) (.one 103 d103)))))))

theorem tab_ok : tab.Ok Tryd.prog := ⟨⟨⟨⟨⟨ok17, ⟨ok19, ok20⟩⟩, ⟨⟨ok25, ok26⟩, ⟨ok28, ok29⟩⟩⟩, ⟨⟨⟨ok30, ok35⟩, ⟨ok38, ok39⟩⟩, ⟨⟨ok42, ok45⟩, ⟨ok46, ok51⟩⟩⟩⟩, ⟨⟨⟨ok52, ⟨ok54, ok57⟩⟩, ⟨⟨ok58, ok59⟩, ⟨ok60, ok61⟩⟩⟩, ⟨⟨⟨ok63, ok64⟩, ⟨ok65, ok68⟩⟩, ⟨⟨ok69, ok70⟩, ⟨ok71, ok72⟩⟩⟩⟩⟩, ⟨⟨⟨⟨ok73, ⟨ok74, ok75⟩⟩, ⟨⟨ok76, ok77⟩, ⟨ok78, ok79⟩⟩⟩, ⟨⟨⟨ok80, ok81⟩, ⟨ok82, ok83⟩⟩, ⟨⟨ok84, ok85⟩, ⟨ok86, ok87⟩⟩⟩⟩, ⟨⟨⟨ok88, ⟨ok89, ok90⟩⟩, ⟨⟨ok91, ok92⟩, ⟨ok93, ok95⟩⟩⟩, ⟨⟨⟨ok96, ok97⟩, ⟨ok98, ok99⟩⟩, ⟨⟨ok100, ok101⟩, ⟨ok102, ok103⟩⟩⟩⟩⟩⟩

end Go.Proofs.Tryd.Dn

